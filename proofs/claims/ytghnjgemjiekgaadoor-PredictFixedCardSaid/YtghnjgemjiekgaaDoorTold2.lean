/-
  predict.told: the walk.
-/
import Derived.Test.YtghnjgemjiekgaaDoorTold
import Derived.Test.YtghnjgemjiekgaaDoorRound
namespace Go.Proofs.YtghnjgemjiekgaaDoor
open Go.RowKit Go.Shelf

attribute [local go_sem] Oper.semAt_some

def toldN (cs : List Int) (sh : Nat) (ls : List Int) : Int := dotN cs (ls.drop (ls.length - cs.length)) cs.length / 2 ^ sh
theorem okS_drop {ls : List Int} (h : okS ls) (k : Nat) : okS (ls.drop k) := fun x hx => h x (List.mem_of_mem_drop hx)

set_option maxRecDepth 100000 in
set_option maxHeartbeats 2000000 in
theorem told_in (pr : Int) (sh : Nat) (hsh : sh ≤ 15)
    (cs ls : List Int) (hcs : ∀ c ∈ cs, -16384 ≤ c ∧ c ≤ 16384) (hm0 : 0 < cs.length) (hm : cs.length ≤ 32) (hs : okS ls) (hml : cs.length ≤ ls.length) (hl : ls.length ≤ 1000000) (bc oc cc b off cap : Nat) (hcap : ls.length ≤ cap) (hcap63 : cap ≤ 9223372036854775807) (w : World)
    (hrc : Rd w (some ⟨bc, oc, none⟩) (zv cs)) (hrl : Rd w (some ⟨b, off, none⟩) (zv ls)) :
    CallsIn Fence.wide 3 Tryd.prog 22 #[.agg #[.int .i64 pr, .int .i64 sh, .slice (some ⟨bc, oc, none⟩) cs.length cc], .slice (some ⟨b, off, none⟩) ls.length cap] w fun e W' => e = .returned (.int .i64 (toldN cs sh ls)) ∧ Below w.heap.size w W' := by
  have h1 : 1 ≤ 3 := by omega
  have hro : Fence.wide.round = none := rfl
  have Hcs := Lib.hid hcs
  obtain ⟨ms, hms⟩ : ∃ k, ls.length - cs.length = k := ⟨_, rfl⟩
  obtain ⟨D, hDe⟩ : ∃ D, ls.drop ms = D := ⟨_, rfl⟩
  have hD : cs.length = D.length := by rw [← hDe, List.length_drop]; omega
  have hsD : okS D := hDe ▸ okS_drop hs ms
  have Htold : Hid (toldN cs sh ls = dotN cs D D.length / 2 ^ sh) := by
    show _ = _
    unfold toldN; rw [hms, hDe, hD]
  have Hrc : Hid (∀ j, j < D.length → w.cell? ⟨bc, oc + j, none⟩ = some (.int .i64 (cs.getD j 0))) := by
    intro j hj
    obtain ⟨b', o', e, hc⟩ := hrc j (.int .i64 (cs.getD j 0)) (by rw [zv_get cs j (by omega)]; simp [List.getD_eq_getElem?_getD, List.getElem?_eq_getElem (show j < cs.length by omega)])
    injection e with e
    injection e with e1 e2
    subst e1 e2
    exact hc
  have Hrl : Hid (∀ j, j < D.length → w.cell? ⟨b, off + ms + j, none⟩ = some (.int .i64 (D.getD j 0))) := by
    intro j hj
    obtain ⟨b', o', e, hc⟩ := hrl (ms + j) (.int .i64 (D.getD j 0)) (by
      subst hDe
      rw [zv_get ls (ms + j) (by omega)]
      simp [List.getD_eq_getElem?_getD, List.getElem?_drop, List.getElem?_eq_getElem (show ms + j < ls.length by omega)])
    injection e with e
    injection e with e1 e2
    subst e1 e2
    rw [Nat.add_assoc]; exact hc
  have hbw : b < w.heap.size := cell_lt (Hrl.out 0 (by omega))
  have hbcw : bc < w.heap.size := cell_lt (Hrc.out 0 (by omega))
  have hk1 : ¬ cap = ms := by omega
  rw [hD] at hm0 hm hml ⊢
  have hk2 : (ls.length : Int) - D.length = (ms : Int) := by omega
  have hk3 : ls.length - ms = D.length := by omega
  have hk4 : (ms : Int) ≤ ls.length := by omega
  have hk5 : (ms : Int) ≤ cap := by omega
  clear hrc hrl hcs hms hDe hD hs
  refine callsIn_of_wp_marks Tryd.func22 rfl trivial ?_ hro
  simp only [Tryd.ntmps22, List.size_toArray, List.length_cons, List.length_nil, Nat.reduceAdd, Nat.reduceSub, Array.replicate_succ, Array.replicate_zero, List.push_toArray, List.append_toArray, List.nil_append, List.cons_append]
  gi_wp2_with (refine ⟨trivial, ?_⟩; gi_at_call 29; refine (back_in Fence.wide (3 - 1) trivial hro _ _ _ _).mono ?_; rintro e w' ⟨rfl, rfl⟩)
  obtain ⟨W3, hW3, hB0, hz3, c0, c1, c2, c3, c4⟩ : ∃ W3, ((w.alloc (.cells #[.int .i64 pr, .int .i64 sh, .slice (some ⟨bc, oc, none⟩) D.length cc] 24)).alloc (.cells #[.int .i64 0] 3)).alloc (.cells #[.slice (some ⟨b, off + ms, none⟩) D.length (cap - ms)] 22) = W3 ∧
      Below w.heap.size w W3 ∧ W3.heap.size = w.heap.size + 3 ∧ W3.cell? ⟨w.heap.size, 1, none⟩ = some (.int .i64 sh) ∧ W3.cell? ⟨w.heap.size, 2, none⟩ = some (.slice (some ⟨bc, oc, none⟩) D.length cc) ∧ W3.cell? ⟨w.heap.size + 1, 0, none⟩ = some (.int .i64 0) ∧ W3.frozen? ⟨w.heap.size + 1, 0, none⟩ = false ∧
      W3.cell? ⟨w.heap.size + 2, 0, none⟩ = some (.slice (some ⟨b, off + ms, none⟩) D.length (cap - ms)) := ⟨_, rfl, by repeat (first | exact Below.refl _ _ | assumption | refine below_drewN ?_ _ | refine Below.drew ?_ | refine Below.alloc ?_ (Nat.le_refl _) _ | refine bal ?_ _ | refine bnext ?_ (by assumption)), by simp, by go_simp, by go_simp, by go_simp, by go_simp, by go_simp⟩
  rw [hW3]
  clear hW3
  refine wpIn_rangeFunc_ownG hro h1 (gf := 31) (lb := #[.pointer (some ⟨w.heap.size + 1 + 1, 0, none⟩)]) rfl trivial (enters_of Tryd.func31 (by kernel_rfl) rfl)
    (back_stops Fence.wide (3 - 1) trivial hro (by omega) (w.heap.size + 2) w.heap.size b (off + ms) (cap - ms) D hsD hm0 (by omega) W3 hbw (by omega) (by omega) c4 (fun j hj => (hB0.cell (p := ⟨b, off + ms + j, none⟩) hbw).trans (Hrl.out j hj))) KpB.t (KpB.b (by omega) (by omega)) (Below.refl _ _) (fun _ => rfl)
    (fun pre W => ((W.cell? ⟨w.heap.size + 1, 0, none⟩ = some (.int .i64 (dotP cs pre)) ∧ W.frozen? ⟨w.heap.size + 1, 0, none⟩ = false) ∧ W.cell? ⟨w.heap.size, 1, none⟩ = some (.int .i64 sh) ∧ W.cell? ⟨w.heap.size, 2, none⟩ = some (.slice (some ⟨bc, oc, none⟩) D.length cc)) ∧ Below w.heap.size w W)
    (fun _ _ _ => False)
    (OwnFrom.and (Own.from (fun s A B row hs hg hr => ⟨⟨cell_kept hs.1.1 hg hr, (frozen_kept hs.1.1 hg hr).trans hs.1.2⟩, cell_kept hs.2.1 hg hr, cell_kept hs.2.2 hg hr⟩) _) (ownFrom_below (Nat.le_refl _) (by omega)))
    (fun _ _ _ _ _ hs _ _ => hs)
    ⟨⟨⟨c2, c3⟩, c0, c1⟩, hB0⟩
    (fun x => { tmps := #[.agg #[.int .i64 pr, .int .i64 sh, .slice (some ⟨bc, oc, none⟩) D.length cc], .slice (some ⟨b, off, none⟩) ls.length cap, .pointer (some ⟨w.heap.size, 0, none⟩), undef, .int .i64 0, .pointer (some ⟨w.heap.size + 1, 0, none⟩), .int .i64 (x.1.1 : Int), .int .i64 x.1.2,
      .slice (some ⟨b, off, none⟩) ls.length cap, .slice (some ⟨b, off, none⟩) ls.length cap, .int .i64 ls.length, .pointer (some ⟨w.heap.size, 2, none⟩), .slice (some ⟨bc, oc, none⟩) D.length cc, .int .i64 D.length, .int .i64 ms, .slice (some ⟨b, off + ms, none⟩) D.length (cap - ms),
      .func (.func 31) #[] #[.pointer (some ⟨w.heap.size + 1 + 1, 0, none⟩)], .int .i64 (x.1.1 : Int), .int .i64 x.1.2, undef, undef, undef, undef, undef, undef, undef, undef, undef, undef, undef, undef, undef], defers := [] }) ?assign ?body ?done ?stop
  case assign =>
    intro l x W K hK
    simp only [encB]
    gi_wp2
    exact hK
  case body =>
    rintro l pre x W ⟨⟨⟨hc, hf⟩, hq1, hq2⟩, hB⟩ hlen
    have hx1 := x.2.1
    have hcc : W.cell? ⟨bc, oc + x.1.1, none⟩ = some (.int .i64 (cs.getD x.1.1 0)) := (hB.cell (p := ⟨bc, oc + x.1.1, none⟩) hbcw).trans (Hrc.out _ hx1)
    have hd := dotP_bd cs Hcs.out pre
    have hcb : -16384 ≤ cs.getD x.1.1 0 ∧ cs.getD x.1.1 0 ≤ 16384 := by
      rw [List.getD_eq_getElem?_getD]
      cases e : cs[x.1.1]? with
      | none => simp
      | some c => exact Hcs.out c (List.mem_of_getElem? e)
    have hmb := mul_bd _ _ hcb x.2.2
    have Hsn := Lib.hid (dotP_snoc cs pre x)
    have hxi : (x.1.1 : Int) < D.length := by omega
    obtain ⟨xi, hxe⟩ : ∃ i, x.1.1 = i := ⟨_, rfl⟩
    obtain ⟨xv, hxv⟩ : ∃ i, x.1.2 = i := ⟨_, rfl⟩
    rw [hxe] at hx1 hcc hcb hmb hxi Hsn
    rw [hxv] at hmb Hsn
    rw [hxe, hxv]
    clear hxe hxv
    generalize cs.getD xi 0 = cv at *
    generalize dotP cs pre = dv at *
    have hw1 : IntKind.i64.wrap (cv * xv) = cv * xv := by rw [IntKind.wrap_i64]; omega
    have hw2 : IntKind.i64.wrap (dv + cv * xv) = dv + cv * xv := by rw [IntKind.wrap_i64]; omega
    gi_wp2
    refine wpIn_round_still_tail 9 (by kernel_rfl) (fun ⟨_, _, h⟩ => h) (by kernel_rfl) (by kernel_rfl) ?_
    simp only [List.take_succ_cons, List.take_zero, List.drop_succ_cons, List.drop_zero]
    repeat still_step
    refine wpStill_nil ?_
    change wpList _ _ _ _ _ W.drew
    go_wp2_with fail
    refine ⟨(KeepsOthers.trans (KeepsOthers.setCell _ _ _) (KeepsOthers.drew _)).from _, ⟨((Below.refl w.heap.size W).setCell (p := ⟨w.heap.size + 1, 0, none⟩) (Nat.le_succ _) _).drew, ?_⟩, ⟨⟨?_, ?_⟩, ?_, ?_⟩, (hB.setCell (p := ⟨w.heap.size + 1, 0, none⟩) (Nat.le_succ _) _).drew⟩
    · exact World.cell?_setCell_far _ _ _ _ (by simp)
    · rw [Hsn.out]; exact World.cell?_setCell_same' _ _ _ (by rw [hc]; rfl)
    · exact (World.frozen?_setCell _ _ _ _).trans hf
    · exact (World.cell?_setCell_far _ _ _ _ (by simp)).trans hq1
    · exact (World.cell?_setCell_far _ _ _ _ (by simp)).trans hq2
  case done =>
    rintro D2 ys W hD2 rfl ⟨⟨⟨hc, hf⟩, hq1, hq2⟩, hB⟩ hK
    rw [dotP_upto cs D hsD hm0 _ (Nat.le_refl _)] at hc
    gi_wp2
    refine ⟨by simp, .inl ⟨_, _, rfl, run_takeDeferred hK, ?_⟩⟩
    exact ⟨_, results_tmp rfl _ _ _, by rw [Htold.out]; rfl, hB.trans (belowK_b (w := w) (Nat.le_refl _) W D2 _ _ (by omega) hK rfl rfl)⟩
  case stop =>
    rintro D c pre W _ _ h _
    exact h.elim

set_option maxRecDepth 100000 in
set_option maxHeartbeats 2000000 in
theorem told0_in (pr : Int) (sh : Nat) (hsh : sh ≤ 15) (L : Nat) (A Ac : Option Addr) (cc cap : Nat) (hl : L ≤ 1000000) (hcap : L ≤ cap) (hcap63 : cap ≤ 9223372036854775807) (w : World) :
    CallsIn Fence.wide 3 Tryd.prog 22 #[.agg #[.int .i64 pr, .int .i64 sh, .slice Ac 0 cc], .slice A L cap] w fun e W' => e = .returned (.int .i64 0) ∧ Below w.heap.size w W' := by
  have h1 : 1 ≤ 3 := by omega
  have hro : Fence.wide.round = none := rfl
  obtain ⟨A2, hA2⟩ : ∃ A2, (if cap = L then A else Option.map (fun x => x.add L) A) = A2 := ⟨_, rfl⟩
  have hk5 : (L : Int) ≤ cap := by omega
  refine callsIn_of_wp_marks Tryd.func22 rfl trivial ?_ hro
  simp only [Tryd.ntmps22, List.size_toArray, List.length_cons, List.length_nil, Nat.reduceAdd, Nat.reduceSub, Array.replicate_succ, Array.replicate_zero, List.push_toArray, List.append_toArray, List.nil_append, List.cons_append]
  gi_wp2_with (refine ⟨trivial, ?_⟩; gi_at_call 29; refine (back_in Fence.wide (3 - 1) trivial hro _ _ _ _).mono ?_; rintro e w' ⟨rfl, rfl⟩)
  obtain ⟨W3, hW3, hB0, hz3, c0, c2, c3, c4⟩ : ∃ W3, ((w.alloc (.cells #[.int .i64 pr, .int .i64 sh, .slice Ac 0 cc] 24)).alloc (.cells #[.int .i64 0] 3)).alloc (.cells #[.slice A2 0 (cap - L)] 22) = W3 ∧
      Below w.heap.size w W3 ∧ W3.heap.size = w.heap.size + 3 ∧ W3.cell? ⟨w.heap.size, 1, none⟩ = some (.int .i64 sh) ∧ W3.cell? ⟨w.heap.size + 1, 0, none⟩ = some (.int .i64 0) ∧ W3.frozen? ⟨w.heap.size + 1, 0, none⟩ = false ∧
      W3.cell? ⟨w.heap.size + 2, 0, none⟩ = some (.slice A2 0 (cap - L)) := ⟨_, rfl, by repeat (first | exact Below.refl _ _ | assumption | refine below_drewN ?_ _ | refine Below.drew ?_ | refine Below.alloc ?_ (Nat.le_refl _) _ | refine bal ?_ _ | refine bnext ?_ (by assumption)), by simp, by go_simp, by go_simp, by go_simp, by go_simp⟩
  rw [hW3]
  clear hW3
  refine wpIn_rangeFunc_ownG hro h1 (gf := 31) (lb := #[.pointer (some ⟨w.heap.size + 1 + 1, 0, none⟩)]) rfl trivial (enters_of Tryd.func31 (by kernel_rfl) rfl)
    (back_stops0 Fence.wide (3 - 1) trivial hro (w.heap.size + 2) w.heap.size A2 (cap - L) W3 (by omega) c4) KpB.t (KpB.b (by omega) (by omega)) (Below.refl _ _) (fun _ => rfl)
    (fun _ W => ((W.cell? ⟨w.heap.size + 1, 0, none⟩ = some (.int .i64 0) ∧ W.frozen? ⟨w.heap.size + 1, 0, none⟩ = false) ∧ W.cell? ⟨w.heap.size, 1, none⟩ = some (.int .i64 sh)) ∧ Below w.heap.size w W)
    (fun _ _ _ => False)
    (OwnFrom.and (Own.from (fun s A B row hs hg hr => ⟨⟨cell_kept hs.1.1 hg hr, (frozen_kept hs.1.1 hg hr).trans hs.1.2⟩, cell_kept hs.2 hg hr⟩) _) (ownFrom_below (Nat.le_refl _) (by omega)))
    (fun _ _ _ _ _ hs _ _ => hs)
    ⟨⟨⟨c2, c3⟩, c0⟩, hB0⟩
    (fun x => { tmps := #[.agg #[.int .i64 pr, .int .i64 sh, .slice Ac 0 cc], .slice A L cap, .pointer (some ⟨w.heap.size, 0, none⟩), undef, .int .i64 0, .pointer (some ⟨w.heap.size + 1, 0, none⟩), .int .i64 (x.1.1 : Int), .int .i64 x.1.2,
      .slice A L cap, .slice A L cap, .int .i64 L, .pointer (some ⟨w.heap.size, 2, none⟩), .slice Ac 0 cc, .int .i64 0, .int .i64 L, .slice A2 0 (cap - L),
      .func (.func 31) #[] #[.pointer (some ⟨w.heap.size + 1 + 1, 0, none⟩)], .int .i64 (x.1.1 : Int), .int .i64 x.1.2, undef, undef, undef, undef, undef, undef, undef, undef, undef, undef, undef, undef, undef], defers := [] }) ?assign ?body ?done ?stop
  case assign =>
    intro l x W K hK
    simp only [encB]
    gi_wp2
    exact hK
  case body =>
    rintro l pre x W _ hlen
    exact absurd hlen (Nat.not_lt_zero _)
  case done =>
    rintro D2 ys W hD2 _ ⟨⟨⟨hc, hf⟩, hq1⟩, hB⟩ hK
    gi_wp2
    refine ⟨by simp, .inl ⟨_, _, rfl, run_takeDeferred hK, ?_⟩⟩
    exact ⟨_, results_tmp rfl _ _ _, by simp, hB.trans (belowK_b (w := w) (Nat.le_refl _) W D2 _ _ (by omega) hK rfl rfl)⟩
  case stop =>
    rintro D c pre W _ _ h _
    exact h.elim

theorem toldN_nil (sh : Nat) (ls : List Int) : toldN [] sh ls = 0 := by simp [toldN, dotN]
/-- told, of any coefficients that may be. -/
theorem told_any (pr : Int) (sh : Nat) (hsh : sh ≤ 15) (cs ls : List Int) (hcs : ∀ c ∈ cs, -16384 ≤ c ∧ c ≤ 16384) (hm : cs.length ≤ 32) (hs : okS ls) (hml : cs.length ≤ ls.length) (hl : ls.length ≤ 1000000) (Ac A : Option Addr) (cc cap : Nat) (hcap : ls.length ≤ cap) (hcap63 : cap ≤ 9223372036854775807) (w : World)
    (hrc : Rd w Ac (zv cs)) (hrl : Rd w A (zv ls)) :
    Calls Tryd.prog 22 #[.agg #[.int .i64 pr, .int .i64 sh, .slice Ac cs.length cc], .slice A ls.length cap] w fun e W' => e = .returned (.int .i64 (toldN cs sh ls)) ∧ Below w.heap.size w W' := by
  refine (callsIn_wide (n := 3)).1 ?_
  rcases Nat.eq_zero_or_pos cs.length with h | h
  · obtain rfl := List.eq_nil_of_length_eq_zero h
    rw [toldN_nil]
    exact told0_in pr sh hsh ls.length A Ac cc cap hl hcap hcap63 w
  · obtain ⟨bc, oc, rfl, _⟩ := hrc.at_ (j := 0) (by rw [zv_length]; exact h)
    obtain ⟨b, off, rfl, _⟩ := hrl.at_ (j := 0) (by rw [zv_length]; omega)
    exact told_in pr sh hsh cs ls hcs h hm hs hml hl bc oc cc b off cap hcap hcap63 w hrc hrl
end Go.Proofs.YtghnjgemjiekgaaDoor
