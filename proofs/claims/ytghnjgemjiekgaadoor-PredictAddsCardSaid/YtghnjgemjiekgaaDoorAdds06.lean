/-
  jetsamlaw06.PredictAdds: its walk. (Printed by wip/gen/adds06.py.)
-/
import Derived.Test.YtghnjgemjiekgaaDoorAddLaw06
import Derived.Test.YtghnjgemjiekgaaDoorMono
import Derived.StillTailTactics
import Derived.Test.YtghnjgemjiekgaaDoorHeadT
import Derived.Test.YtghnjgemjiekgaaDoorL2
namespace Go.Proofs.YtghnjgemjiekgaaDoor
open Go.RowKit

/-- A pair of a slice that reads as xs and a number. -/
def Tup (w : World) (v : Value) (n : Nat) (E : Int) (xs : List Value) : Prop := ∃ A c, v = .tuple #[.slice A n c, .int .i64 E] ∧ Rd w A xs
def Tup.spec (n : Nat) (E : Int) (xs : List Value) : Spec := .rel (fun v w => Tup w v n E xs) fun _ _ _ ⟨A, c, e, hr⟩ hb => ⟨A, c, e, hr.below hb⟩
def Slc (w : World) (v : Value) (n : Nat) (xs : List Value) : Prop := ∃ A c, v = .slice A n c ∧ Rd w A xs
def Slc.spec (n : Nat) (xs : List Value) : Spec := .rel (fun v w => Slc w v n xs) fun _ _ _ ⟨A, c, e, hr⟩ hb => ⟨A, c, e, hr.below hb⟩
theorem own_rd3 {w : World} {base : Nat} {e : TypeId} {v : Value} {n : Nat} {xs : List Value} (h : w.ownsRow base e 1 v n xs) :
    ∃ A c, v = .slice A n c ∧ n ≤ c ∧ c ≤ 9223372036854775807 ∧ Rd w A xs := by
  obtain ⟨A, c, rfl, hc, hr⟩ := own_rd h
  refine ⟨A, c, rfl, hc, ?_, hr⟩
  rcases h.2 with ⟨e, hn⟩ | ⟨g, cap, cur, e, hb, hg, hn, hm, hs, ht⟩
  · injection e with e1 e2 e3; omega
  · injection e with e1 e2 e3; subst e3; unfold maxLen at hm; omega
theorem addL_snoc (a b : List Int) (i : Nat) (ha : i < a.length) (hb : i < b.length) : zv (addL (a.take (i + 1)) (b.take (i + 1))) = zv (addL (a.take i) (b.take i)) ++ [.int .i64 (a[i] + b[i])] := by
  rw [List.take_succ_eq_append_getElem ha, List.take_succ_eq_append_getElem hb]
  unfold addL
  rw [List.zipWith_append (by simp; omega), zv_append]
  rfl
theorem okA_snoc (a : List Int) (i : Nat) (h : i < a.length) (h1 : okA (a.take i)) (h2 : -1073741824 ≤ a[i] ∧ a[i] ≤ 1073741824) : okA (a.take (i + 1)) := by
  intro x hx
  rw [List.take_succ_eq_append_getElem h] at hx
  rcases List.mem_append.1 hx with hx | hx
  · exact h1 x hx
  · simp at hx; subst hx; exact h2

set_option maxRecDepth 100000 in
set_option maxHeartbeats 4000000 in
theorem adds_b (pr sh : Int) (cs la lb : List Int) (Ac A B : Option Addr) (cc ca cb : Nat) (w : World) (hF : FixAt w) (hrc : Rd w Ac (zv cs)) (hra : Rd w A (zv la)) (hrb : Rd w B (zv lb)) (hca : la.length ≤ ca) (hca63 : ca ≤ 9223372036854775807) (hcb : lb.length ≤ cb) (hcb63 : cb ≤ 9223372036854775807) (h40 : ¬ 40 < cs.length)
    (h100 : ¬ 100 < lb.length) (hmin : (lb.length : Int) < la.length) :
    Calls Tryd.prog 5 #[.agg #[.int .i64 pr, .int .i64 sh, .slice Ac cs.length cc], .slice A la.length ca, .slice B lb.length cb] w fun e w' => e = .returned (.bool true) ∧ Below w.heap.size w w' := by
  have HF := Lib.hid hF; clear hF
  have Hra := Lib.hid hra
  have Hrb := Lib.hid hrb
  have HRes := Lib.hid (fun (W : World) (hW : Below w.heap.size w W) (l : List Int) (D : Option Addr) (d : Nat) (hD : Rd W D (zv l)) (hl : l.length ≤ 100) (h1 : l.length ≤ d) (h2 : d ≤ 9223372036854775807) => Residual_all pr 0 cs l Ac D cc d W (hrc.below hW) hD (by omega) (by omega) h1 h2)
  clear hra hrb hrc
  obtain ⟨m, hm⟩ : ∃ m, cs.length = m := ⟨_, rfl⟩
  rw [hm] at h40 HRes ⊢
  have Hm := Lib.hid hm
  clear hm
  obtain ⟨w1, hw1, hb1, hp⟩ : ∃ w1, (w.alloc (.cells #[.int .i64 pr, .int .i64 sh, .slice Ac m cc] 24)).setCell ⟨w.heap.size, 1, none⟩ (.int .i64 0) = w1 ∧ Below w.heap.size w w1 ∧ w1.heap[w.heap.size]? = some (.cells #[.int .i64 pr, .int .i64 0, .slice Ac m cc] 24 (0, 0)) :=
    ⟨_, rfl, ((Below.refl _ _).alloc (Nat.le_refl _) _).setCell (Nat.le_refl _) _, hrow_set (heap_alloc_last w _) rfl⟩
  have Hp := Lib.hid hp
  clear hp
  go_enter Tryd.func5, Tryd.ntmps5
  go_upto_region 5 with fail
  try rw [hw1]
  clear hw1
  go_wp2_with fail
  go_loopw [8, 9] (fun v iv wr => ∃ i : Nat, i ≤ lb.length ∧ iv = .int .i64 i ∧ Hid (okA (la.take i) ∧ okA (lb.take i)) ∧ Hid (wr.ownsRow w1.heap.size 3 1 v i (zv (addL (la.take i) (lb.take i)))) ∧ Hid (Below w1.heap.size w1 wr)) (fun _ iv _ => lb.length - (intOf iv).toNat)
  case atStart => exact ⟨0, by omega, rfl, ⟨fun x hx => by simp at hx, fun x hx => by simp at hx⟩, World.ownsRow_nil w1 w1.heap.size _ 1, Below.refl _ _⟩
  case round =>
    obtain ⟨i, hi, rfl, HO, Hv, Hb⟩ := hrel
    by_cases hii : i < lb.length
    · have hia : i < la.length := by omega
      have hib : i < lb.length := by omega
      obtain ⟨b1, o1, rfl, hc1⟩ := (Hra.out.below (bnext hb1 Hb.out)) i (.int .i64 la[i]) (by simp [zv, hia])
      obtain ⟨b2, o2, rfl, hc2⟩ := (Hrb.out.below (bnext hb1 Hb.out)) i (.int .i64 lb[i]) (by simp [zv, hib])
      have Hsn := Lib.hid (addL_snoc la lb i hia hib)
      have Hoa := Lib.hid (okA_snoc la i hia HO.out.1)
      have Hob := Lib.hid (okA_snoc lb i hib HO.out.2)
      have HQ : Hid (∀ W : World, Below w1.heap.size w1 W → W.cell? ⟨b1, o1 + i, none⟩ = some (.int .i64 la[i]) ∧ W.cell? ⟨b2, o2 + i, none⟩ = some (.int .i64 lb[i])) := by
        intro W hW
        obtain ⟨b', o', e, h1⟩ := (Hra.out.below (bnext hb1 hW)) i (.int .i64 la[i]) (by simp [zv, hia])
        injection e with e; injection e with e1 e2; subst e1 e2
        obtain ⟨b', o', e, h2⟩ := (Hrb.out.below (bnext hb1 hW)) i (.int .i64 lb[i]) (by simp [zv, hib])
        injection e with e; injection e with e1 e2; subst e1 e2
        exact ⟨h1, h2⟩
      have HFr := Lib.hid (HF.out.below (bnext hb1 Hb.out))
      have hbe := bnext hb1 Hb.out
      generalize la[i] = x at *
      generalize lb[i] = y at *
      by_cases hout : x > 1073741824 ∨ x < -1073741824 ∨ y > 1073741824 ∨ y < -1073741824
      · have hd : (decide (x > 1073741824) || decide (x < -1073741824) || decide (y > 1073741824) || decide (y < -1073741824)) = true := by simp; omega
        by_cases q1 : x > 1073741824
        · go_wp2_with fail
          refine (awake_any _ HFr.out).mono ?_
          rintro e w3 ⟨rfl, hb3⟩
          go_wp2_with fail
          go_ret
          exact ⟨rfl, bnext hbe hb3⟩
        by_cases q2 : x < -1073741824
        · go_wp2_with fail
          refine (awake_any _ HFr.out).mono ?_
          rintro e w3 ⟨rfl, hb3⟩
          go_wp2_with fail
          go_ret
          exact ⟨rfl, bnext hbe hb3⟩
        by_cases q3 : y > 1073741824
        · go_wp2_with fail
          refine (awake_any _ HFr.out).mono ?_
          rintro e w3 ⟨rfl, hb3⟩
          go_wp2_with fail
          go_ret
          exact ⟨rfl, bnext hbe hb3⟩
        · have q4 : y < -1073741824 := by omega
          go_wp2_with fail
          refine (awake_any _ HFr.out).mono ?_
          rintro e w3 ⟨rfl, hb3⟩
          go_wp2_with fail
          go_ret
          exact ⟨rfl, bnext hbe hb3⟩
      · have q1 : ¬ x > 1073741824 := by omega
        have q2 : ¬ x < -1073741824 := by omega
        have q3 : ¬ y > 1073741824 := by omega
        have q4 : ¬ y < -1073741824 := by omega
        have HO2 : Hid (okA (la.take (i + 1)) ∧ okA (lb.take (i + 1))) := ⟨Hoa.out (by omega), Hob.out (by omega)⟩
        have hwx : IntKind.i64.wrap (x + y) = x + y := by rw [IntKind.wrap_i64]; omega
        have hi1 : (i : Int) < la.length := by omega
        have hi2 : (i : Int) < lb.length := by omega
        have hi0 : (0 : Int) ≤ i := by omega
        clear hout HFr HF
        go_wp2_with fail
        refine wp_region_headN (fun W' => W'.cell? ⟨b1, o1 + i, none⟩ = some (.int .i64 x) ∧ W'.cell? ⟨b2, o2 + i, none⟩ = some (.int .i64 y)) 10 3 (by kernel_rfl) rfl (by kernel_rfl) (HQ.out wr.drew (Hb.out.drew)) ?_
        simp only [List.take_succ_cons, List.take_zero]
        refine' wpHead_op _ (by rfl) ?hv1 ?hrest1
        case hv1 => (intro w' hS'; (try dsimp only at hS'); go_simp; try with_reducible rfl)
        try simp only [Act.put, List.setIfInBounds_toArray, List.set_cons_zero, List.set_cons_succ]
        refine' wpHead_op _ (by rfl) ?hv2 ?hrest2
        case hv2 => (intro w' hS'; (try dsimp only at hS'); go_simp; try with_reducible rfl)
        try simp only [Act.put, List.setIfInBounds_toArray, List.set_cons_zero, List.set_cons_succ]
        refine' wpHead_op _ (by rfl) ?hv3 ?hrest3
        case hv3 => (intro w' hS'; (try dsimp only at hS'); go_simp; try with_reducible rfl)
        try simp only [Act.put, List.setIfInBounds_toArray, List.set_cons_zero, List.set_cons_succ]
        refine' wpHead_op _ (by rfl) ?hv4 ?hrest4
        case hv4 => (intro w' hS'; (try dsimp only at hS'); go_simp; try with_reducible rfl)
        try simp only [Act.put, List.setIfInBounds_toArray, List.set_cons_zero, List.set_cons_succ]
        refine' wpHead_op _ (by rfl) ?hv5 ?hrest5
        case hv5 => (intro w' hS'; (try dsimp only at hS'); go_simp; try with_reducible rfl)
        try simp only [Act.put, List.setIfInBounds_toArray, List.set_cons_zero, List.set_cons_succ]
        refine' wpHead_op _ (by rfl) ?hv6 ?hrest6
        case hv6 => (intro w' hS'; (try dsimp only at hS'); go_simp; try with_reducible rfl)
        try simp only [Act.put, List.setIfInBounds_toArray, List.set_cons_zero, List.set_cons_succ]
        refine' wpHead_op _ (by rfl) ?hv7 ?hrest7
        case hv7 => (intro w' hS'; (try dsimp only at hS'); go_simp; try with_reducible rfl)
        try simp only [Act.put, List.setIfInBounds_toArray, List.set_cons_zero, List.set_cons_succ]
        refine' wpHead_op _ (by rfl) ?hv8 ?hrest8
        case hv8 => (intro w' hS'; (try dsimp only at hS'); go_simp; try with_reducible rfl)
        try simp only [Act.put, List.setIfInBounds_toArray, List.set_cons_zero, List.set_cons_succ]
        refine' wpHead_op _ (by rfl) ?hv9 ?hrest9
        case hv9 => (intro w' hS'; (try dsimp only at hS'); go_simp; try with_reducible rfl)
        try simp only [Act.put, List.setIfInBounds_toArray, List.set_cons_zero, List.set_cons_succ]
        refine' wpHead_op _ (by rfl) ?hv10 ?hrest10
        case hv10 => (intro w' hS'; (try dsimp only at hS'); go_simp; try with_reducible rfl)
        try simp only [Act.put, List.setIfInBounds_toArray, List.set_cons_zero, List.set_cons_succ]
        refine wpHead_nil ?_
        obtain ⟨wd, hwd, hb4, hv3⟩ : ∃ wd, wr.drew = wd ∧ Below w1.heap.size w1 wd ∧ wd.ownsRow w1.heap.size 3 1 u8 i (zv (addL (la.take i) (lb.take i))) := ⟨_, rfl, Hb.out.drew, Hv.out⟩
        have Hv3 := Lib.hid hv3
        rw [hwd]
        clear hwd hv3
        refine wpAnyH_next (i := 10) (by kernel_rfl) rfl (by rfl) (fun K hK => ?_)
        go_simp
        refine hK.out _ _ (HQ.out _ (bal hb4 _)) ?_
        clear hK K
        try simp only [Act.put, List.setIfInBounds_toArray, List.set_cons_zero, List.set_cons_succ]
        refine wpAnyH_next (i := 11) (by kernel_rfl) rfl (by rfl) (fun K hK => ?_)
        refine wp_app1 (w0 := w1) (W := wd.alloc (.cells #[.int .i64 (x + y)] 3)) (H := wd.heap.size) _ _ 22 rfl Tryd.underlying22 info_int rfl (by decide) rfl (Hv3.out.alloc _) (Nat.le_refl _) (by have := hb4.size; simp; omega) (bal hb4 _) rfl (heap_alloc_new wd _) rfl (one_int _ _) (by omega) (by unfold maxLen; omega) ?_
        intro v1 w6 own1 hb6 hs6
        have Hown1 := Lib.hid own1
        have Hb6 := Lib.hid hb6
        refine hK.out _ _ (HQ.out _ hb6) ?_
        clear hK K own1 Hv3 hb6 hb4
        try simp only [Act.put, List.setIfInBounds_toArray, List.set_cons_zero, List.set_cons_succ]
        refine wpAnyH_next (i := 12) (by kernel_rfl) rfl (by rfl) (fun K hK => ?_)
        go_simp
        refine hK.out _ _ (HQ.out _ Hb6.out) ?_
        clear hK K
        try simp only [Act.put, List.setIfInBounds_toArray, List.set_cons_zero, List.set_cons_succ]
        refine wpAnyH_doneN (by kernel_rfl) ?_
        go_wp2_with fail
        go_roundw
        case rel => exact ⟨i + 1, by omega, by go_num, HO2, by rw [Hsn.out]; exact Hown1, Hb6⟩
        case measure => simp [intOf] <;> omega
    · obtain rfl : i = lb.length := by omega
      obtain ⟨A3, c3, rfl, hc3, hm3, hr3⟩ := own_rd3 Hv.out
      have Hr3 := Lib.hid hr3
      have Hla : Hid ((la.take lb.length).length = lb.length) := by show _ = _; rw [List.length_take]; omega
      have Hlb : Hid ((lb.take lb.length).length = lb.length) := by show _ = _; rw [List.length_take]; omega
      have Hlc : Hid ((addL (la.take lb.length) (lb.take lb.length)).length = lb.length) := by show _ = _; rw [addL_length _ _ (by rw [Hla.out, Hlb.out]), Hla.out]
      obtain ⟨e1, e2, l1, l2, hadd, hbd⟩ := add_law pr cs (la.take lb.length) (lb.take lb.length) (by rw [Hla.out, Hlb.out]) HO.out.1 HO.out.2
      have hb5 := bnext hb1 Hb.out
      have HX : Hid (∀ W : World, Below wr.heap.size wr W → Calls Tryd.prog 9 #[.agg #[.int .i64 pr, .int .i64 0, .slice Ac m cc], .slice A (lb.length) ca] W fun e w' => ∃ v, e = .returned (.tuple #[v, .int .i64 (resE pr 0 cs (la.take lb.length))]) ∧ Hid (w'.ownsRow W.heap.size 3 1 v (resL pr 0 cs (la.take lb.length)).length (zv (resL pr 0 cs (la.take lb.length)))) ∧ Below W.heap.size W w') := by
        intro W hW
        have h := HRes.out W (bnext hb5 hW) (la.take lb.length) A ca (by rw [zv_take]; exact (Hra.out.below (bnext hb5 hW)).take _) (by rw [Hla.out]; omega) (by rw [Hla.out]; omega) hca63
        rw [Hla.out] at h
        exact h
      have HY : Hid (∀ W : World, Below wr.heap.size wr W → Calls Tryd.prog 9 #[.agg #[.int .i64 pr, .int .i64 0, .slice Ac m cc], .slice B (lb.length) cb] W fun e w' => ∃ v, e = .returned (.tuple #[v, .int .i64 (resE pr 0 cs (la.take lb.length))]) ∧ Hid (w'.ownsRow W.heap.size 3 1 v (resL pr 0 cs (la.take lb.length)).length (zv (resL pr 0 cs (lb.take lb.length)))) ∧ Below W.heap.size W w') := by
        intro W hW
        have h := HRes.out W (bnext hb5 hW) (lb.take lb.length) B cb (by rw [zv_take]; exact (Hrb.out.below (bnext hb5 hW)).take _) (by rw [Hlb.out]; omega) (by rw [Hlb.out]; omega) hcb63
        rw [Hlb.out, e1, l1] at h
        exact h
      have HZ : Hid (∀ W : World, Below wr.heap.size wr W → Calls Tryd.prog 9 #[.agg #[.int .i64 pr, .int .i64 0, .slice Ac m cc], .slice A3 (lb.length) c3] W fun e w' => ∃ v, e = .returned (.tuple #[v, .int .i64 (resE pr 0 cs (la.take lb.length))]) ∧ Hid (w'.ownsRow W.heap.size 3 1 v (resL pr 0 cs (la.take lb.length)).length (zv (resL pr 0 cs (addL (la.take lb.length) (lb.take lb.length))))) ∧ Below W.heap.size W w') := by
        intro W hW
        have h := HRes.out W (bnext hb5 hW) (addL (la.take lb.length) (lb.take lb.length)) A3 c3 (Hr3.out.below hW) (by rw [Hlc.out]; omega) (by rw [Hlc.out]; omega) hm3
        rw [Hlc.out, e2, l2] at h
        exact h
      have Hadd := Lib.hid hadd
      have Hbd := Lib.hid hbd
      have Hl1 := Lib.hid l1
      have Hl2 := Lib.hid l2
      have hlen : (resL pr 0 cs (la.take lb.length)).length ≤ 100 := by
        unfold resL
        split
        · rw [resN_length, Hla.out]; omega
        · simp
      clear e1 e2 l1 l2 hadd hbd hr3 HRes HO Hv Hlc Hla Hlb
      generalize resE pr 0 cs (la.take lb.length) = E at *
      generalize resL pr 0 cs (addL (la.take lb.length) (lb.take lb.length)) = Lz at *
      generalize resL pr 0 cs (la.take lb.length) = Lx at *
      generalize resL pr 0 cs (lb.take lb.length) = Ly at *
      obtain ⟨L, hL⟩ : ∃ L, Lx.length = L := ⟨_, rfl⟩
      rw [hL] at HX HY HZ Hadd hlen Hl1 Hl2
      have HL := Lib.hid hL
      clear hL
      have QP : Hid (∀ W : World, Below wr.heap.size wr W → W.cell? ⟨w.heap.size, 0, none⟩ = some (.int .i64 pr) ∧ W.cell? ⟨w.heap.size, 1, none⟩ = some (.int .i64 0) ∧ W.cell? ⟨w.heap.size, 2, none⟩ = some (.slice Ac m cc)) := by
        intro W hW
        have h : W.heap[w.heap.size]? = some (.cells #[.int .i64 pr, .int .i64 0, .slice Ac m cc] 24 (0, 0)) := hrow_below (hrow_below Hp.out Hb.out) hW
        exact ⟨cell_of_row W _ _ _ _ _ h, cell_of_row W _ _ _ _ _ h, cell_of_row W _ _ _ _ _ h⟩
      have hn1 : (lb.length : Int) ≤ la.length := by omega
      have hn2 : (lb.length : Int) ≤ lb.length := by omega
      have hn3 : (lb.length : Int) ≤ ca := by omega
      have hn4 : (lb.length : Int) ≤ cb := by omega
      have hn5 : lb.length ≤ ca := by omega
      have hn6 : lb.length ≤ cb := by omega
      go_wp2_with fail
      refine wp_region_specs [
        Spec.val (.agg #[.int .i64 pr, .int .i64 0, .slice Ac m cc]),
        Spec.val ((.slice A la.length ca)),
        Spec.val ((.int .i64 (lb.length : Nat))),
        Spec.val ((.slice A (lb.length) ca)),
        Tup.spec L E (zv Lx),
        Tup.spec L E (zv Lx),
        Slc.spec L (zv Lx),
        Spec.val ((.int .i64 E)),
        Slc.spec L (zv Lx),
        Spec.val ((.int .i64 E))] wr (by kernel_rfl) (by repeat (first | exact Below.refl _ _ | assumption | refine below_drewN ?_ _ | refine Below.drew ?_ | refine Below.alloc ?_ (Nat.le_refl _) _ | refine bal ?_ _ | refine bnext ?_ (by assumption))) (n := 141) rfl (by decide +kernel) ⟨?_, ?_, ?_, ?_, ?_, ?_, ?_, ?_, ?_, ?_, trivial⟩ ?_
      · intro ac wd hJ hfr hdep
        have s3 : ac.tmps.getD 3 undef = .pointer (some ⟨w.heap.size, 0, none⟩) := (hfr 3 (by decide)).trans rfl
        have s3' := slot' s3
        clear hfr hdep
        refine if_wanted rfl (fun Q => op_any (fun K hK => ?_))
        obtain ⟨x0, x1, x2⟩ := QP.out wd (hJ)
        go_simp
        exact hK _ _ rfl hJ (Below.refl _ _)
      · intro ac wd hJ hfr hdep
        have s1 : ac.tmps.getD 1 undef = (.slice A la.length ca) := (hfr 1 (by decide)).trans rfl
        have s1' := slot' s1
        clear hfr hdep
        refine if_wanted rfl (fun Q => op_any (fun K hK => ?_))
        go_simp
        exact hK _ _ rfl hJ (Below.refl _ _)
      · intro ac wd hJ hfr hdep
        have s7 : ac.tmps.getD 7 undef = (.int .i64 (lb.length : Nat)) := (hfr 7 (by decide)).trans rfl
        have s7' := slot' s7
        clear hfr hdep
        refine if_wanted rfl (fun Q => op_any (fun K hK => ?_))
        go_simp
        exact hK _ _ rfl hJ (Below.refl _ _)
      · intro ac wd hJ hfr hdep
        have s78 : ac.tmps.getD 78 undef = (.slice A la.length ca) := hdep 1 _ 78 (by decide) rfl rfl
        have s79 : ac.tmps.getD 79 undef = (.int .i64 (lb.length : Nat)) := hdep 2 _ 79 (by decide) rfl rfl
        have s78' := slot' s78
        have s79' := slot' s79
        clear hfr hdep
        refine if_wanted rfl (fun Q => op_any (fun K hK => ?_))
        go_simp
        exact hK _ _ rfl hJ (Below.refl _ _)
      · intro ac wd hJ hfr hdep
        have s77 : ac.tmps.getD 77 undef = .agg #[.int .i64 pr, .int .i64 0, .slice Ac m cc] := hdep 0 _ 77 (by decide) rfl rfl
        have s80 : ac.tmps.getD 80 undef = (.slice A (lb.length) ca) := hdep 3 _ 80 (by decide) rfl rfl
        have s77' := slot' s77
        have s80' := slot' s80
        clear hfr hdep
        refine if_wanted rfl (fun Q => op_any (fun K hK => ?_))
        go_simp
        refine (HX.out _ (hJ)).mono ?_
        rintro e wz ⟨v, rfl, hown, hbz⟩
        obtain ⟨A, c, rfl, hc, hr⟩ := own_rd hown.out
        exact hK _ _ ⟨A, c, rfl, hr⟩ (bnext hJ hbz) hbz
      · intro ac wd hJ hfr hdep
        obtain ⟨A81, c81, s81, hr81⟩ := hdep 4 _ 81 (by decide) rfl rfl
        have s81' := slot' s81
        clear hfr hdep
        refine if_wanted rfl (fun Q => op_any (fun K hK => ?_))
        go_simp
        exact hK _ _ ⟨A81, c81, rfl, hr81⟩ hJ (Below.refl _ _)
      · intro ac wd hJ hfr hdep
        obtain ⟨A76, c76, s76, hr76⟩ := hdep 5 _ 76 (by decide) rfl rfl
        have s76' := slot' s76
        clear hfr hdep
        refine if_wanted rfl (fun Q => op_any (fun K hK => ?_))
        go_simp
        exact hK _ _ ⟨A76, c76, rfl, hr76⟩ hJ (Below.refl _ _)
      · intro ac wd hJ hfr hdep
        obtain ⟨A76, c76, s76, hr76⟩ := hdep 5 _ 76 (by decide) rfl rfl
        have s76' := slot' s76
        clear hfr hdep
        refine if_wanted rfl (fun Q => op_any (fun K hK => ?_))
        go_simp
        exact hK _ _ rfl hJ (Below.refl _ _)
      · intro ac wd hJ hfr hdep
        obtain ⟨A82, c82, s82, hr82⟩ := hdep 6 _ 82 (by decide) rfl rfl
        have s82' := slot' s82
        clear hfr hdep
        refine if_wanted rfl (fun Q => op_any (fun K hK => ?_))
        go_simp
        exact hK _ _ ⟨A82, c82, rfl, hr82⟩ hJ (Below.refl _ _)
      · intro ac wd hJ hfr hdep
        have s83 : ac.tmps.getD 83 undef = (.int .i64 E) := hdep 7 _ 83 (by decide) rfl rfl
        have s83' := slot' s83
        clear hfr hdep
        refine if_wanted rfl (fun Q => op_any (fun K hK => ?_))
        go_simp
        exact hK _ _ rfl hJ (Below.refl _ _)
      intro f w' hJ hR
      have e0 : f 0 = .agg #[.int .i64 pr, .int .i64 0, .slice Ac m cc] := hR 0 (by decide)
      have e1 : f 1 = (.slice A la.length ca) := hR 1 (by decide)
      have e2 : f 2 = (.int .i64 (lb.length : Nat)) := hR 2 (by decide)
      have e3 : f 3 = (.slice A (lb.length) ca) := hR 3 (by decide)
      obtain ⟨A4', c4', e4, hr4'⟩ := hR 4 (by decide)
      obtain ⟨A5', c5', e5, hr5'⟩ := hR 5 (by decide)
      obtain ⟨A6', c6', e6, hr6'⟩ := hR 6 (by decide)
      have e7 : f 7 = (.int .i64 E) := hR 7 (by decide)
      obtain ⟨A8', c8', e8, hr8'⟩ := hR 8 (by decide)
      have e9 : f 9 = (.int .i64 E) := hR 9 (by decide)
      clear hR
      simp only [finA, Act.put, List.setIfInBounds_toArray, List.set_cons_succ, List.set_cons_zero, Nat.reduceAdd, e0, e1, e2, e3, e4, e5, e6, e7, e8, e9]
      clear e0 e1 e2 e3 e4 e5 e6 e7 e8 e9
      have Hx := Lib.hid hr8'
      have hJ12 := hJ
      clear hr8'
      generalize A8' = Ax at *
      generalize c8' = cx at *
      obtain ⟨w4, rfl⟩ : ∃ w4, w4 = w' := ⟨_, rfl⟩
      go_wp2_with fail
      refine wp_region_specs [
        Spec.val (.agg #[.int .i64 pr, .int .i64 0, .slice Ac m cc]),
        Spec.val ((.slice B lb.length cb)),
        Spec.val ((.int .i64 (lb.length : Nat))),
        Spec.val ((.slice B (lb.length) cb)),
        Tup.spec L E (zv Ly),
        Tup.spec L E (zv Ly),
        Slc.spec L (zv Ly),
        Spec.val ((.int .i64 E)),
        Slc.spec L (zv Ly),
        Spec.val ((.int .i64 E))] w4 (by kernel_rfl) (by repeat (first | exact Below.refl _ _ | assumption | refine below_drewN ?_ _ | refine Below.drew ?_ | refine Below.alloc ?_ (Nat.le_refl _) _ | refine bal ?_ _ | refine bnext ?_ (by assumption))) (n := 141) rfl (by decide +kernel) ⟨?_, ?_, ?_, ?_, ?_, ?_, ?_, ?_, ?_, ?_, trivial⟩ ?_
      · intro ac wd hJ hfr hdep
        have s3 : ac.tmps.getD 3 undef = .pointer (some ⟨w.heap.size, 0, none⟩) := (hfr 3 (by decide)).trans rfl
        have s3' := slot' s3
        clear hfr hdep
        refine if_wanted rfl (fun Q => op_any (fun K hK => ?_))
        obtain ⟨x0, x1, x2⟩ := QP.out wd (bnext hJ12 hJ)
        go_simp
        exact hK _ _ rfl hJ (Below.refl _ _)
      · intro ac wd hJ hfr hdep
        have s2 : ac.tmps.getD 2 undef = (.slice B lb.length cb) := (hfr 2 (by decide)).trans rfl
        have s2' := slot' s2
        clear hfr hdep
        refine if_wanted rfl (fun Q => op_any (fun K hK => ?_))
        go_simp
        exact hK _ _ rfl hJ (Below.refl _ _)
      · intro ac wd hJ hfr hdep
        have s7 : ac.tmps.getD 7 undef = (.int .i64 (lb.length : Nat)) := (hfr 7 (by decide)).trans rfl
        have s7' := slot' s7
        clear hfr hdep
        refine if_wanted rfl (fun Q => op_any (fun K hK => ?_))
        go_simp
        exact hK _ _ rfl hJ (Below.refl _ _)
      · intro ac wd hJ hfr hdep
        have s86 : ac.tmps.getD 86 undef = (.slice B lb.length cb) := hdep 1 _ 86 (by decide) rfl rfl
        have s87 : ac.tmps.getD 87 undef = (.int .i64 (lb.length : Nat)) := hdep 2 _ 87 (by decide) rfl rfl
        have s86' := slot' s86
        have s87' := slot' s87
        clear hfr hdep
        refine if_wanted rfl (fun Q => op_any (fun K hK => ?_))
        go_simp
        exact hK _ _ rfl hJ (Below.refl _ _)
      · intro ac wd hJ hfr hdep
        have s85 : ac.tmps.getD 85 undef = .agg #[.int .i64 pr, .int .i64 0, .slice Ac m cc] := hdep 0 _ 85 (by decide) rfl rfl
        have s88 : ac.tmps.getD 88 undef = (.slice B (lb.length) cb) := hdep 3 _ 88 (by decide) rfl rfl
        have s85' := slot' s85
        have s88' := slot' s88
        clear hfr hdep
        refine if_wanted rfl (fun Q => op_any (fun K hK => ?_))
        go_simp
        refine (HY.out _ (bnext hJ12 hJ)).mono ?_
        rintro e wz ⟨v, rfl, hown, hbz⟩
        obtain ⟨A, c, rfl, hc, hr⟩ := own_rd hown.out
        exact hK _ _ ⟨A, c, rfl, hr⟩ (bnext hJ hbz) hbz
      · intro ac wd hJ hfr hdep
        obtain ⟨A89, c89, s89, hr89⟩ := hdep 4 _ 89 (by decide) rfl rfl
        have s89' := slot' s89
        clear hfr hdep
        refine if_wanted rfl (fun Q => op_any (fun K hK => ?_))
        go_simp
        exact hK _ _ ⟨A89, c89, rfl, hr89⟩ hJ (Below.refl _ _)
      · intro ac wd hJ hfr hdep
        obtain ⟨A84, c84, s84, hr84⟩ := hdep 5 _ 84 (by decide) rfl rfl
        have s84' := slot' s84
        clear hfr hdep
        refine if_wanted rfl (fun Q => op_any (fun K hK => ?_))
        go_simp
        exact hK _ _ ⟨A84, c84, rfl, hr84⟩ hJ (Below.refl _ _)
      · intro ac wd hJ hfr hdep
        obtain ⟨A84, c84, s84, hr84⟩ := hdep 5 _ 84 (by decide) rfl rfl
        have s84' := slot' s84
        clear hfr hdep
        refine if_wanted rfl (fun Q => op_any (fun K hK => ?_))
        go_simp
        exact hK _ _ rfl hJ (Below.refl _ _)
      · intro ac wd hJ hfr hdep
        obtain ⟨A90, c90, s90, hr90⟩ := hdep 6 _ 90 (by decide) rfl rfl
        have s90' := slot' s90
        clear hfr hdep
        refine if_wanted rfl (fun Q => op_any (fun K hK => ?_))
        go_simp
        exact hK _ _ ⟨A90, c90, rfl, hr90⟩ hJ (Below.refl _ _)
      · intro ac wd hJ hfr hdep
        have s91 : ac.tmps.getD 91 undef = (.int .i64 E) := hdep 7 _ 91 (by decide) rfl rfl
        have s91' := slot' s91
        clear hfr hdep
        refine if_wanted rfl (fun Q => op_any (fun K hK => ?_))
        go_simp
        exact hK _ _ rfl hJ (Below.refl _ _)
      intro f w' hJ hR
      have e0 : f 0 = .agg #[.int .i64 pr, .int .i64 0, .slice Ac m cc] := hR 0 (by decide)
      have e1 : f 1 = (.slice B lb.length cb) := hR 1 (by decide)
      have e2 : f 2 = (.int .i64 (lb.length : Nat)) := hR 2 (by decide)
      have e3 : f 3 = (.slice B (lb.length) cb) := hR 3 (by decide)
      obtain ⟨A4', c4', e4, hr4'⟩ := hR 4 (by decide)
      obtain ⟨A5', c5', e5, hr5'⟩ := hR 5 (by decide)
      obtain ⟨A6', c6', e6, hr6'⟩ := hR 6 (by decide)
      have e7 : f 7 = (.int .i64 E) := hR 7 (by decide)
      obtain ⟨A8', c8', e8, hr8'⟩ := hR 8 (by decide)
      have e9 : f 9 = (.int .i64 E) := hR 9 (by decide)
      clear hR
      simp only [finA, Act.put, List.setIfInBounds_toArray, List.set_cons_succ, List.set_cons_zero, Nat.reduceAdd, e0, e1, e2, e3, e4, e5, e6, e7, e8, e9]
      clear e0 e1 e2 e3 e4 e5 e6 e7 e8 e9
      have hJ13 := bnext hJ12 hJ
      have Hx5 := Lib.hid (Hx.out.below hJ)
      have Hy := Lib.hid hr8'
      clear hr8' Hx
      generalize A8' = Ay at *
      generalize c8' = cy at *
      obtain ⟨w5, rfl⟩ : ∃ w5, w5 = w' := ⟨_, rfl⟩
      obtain ⟨q0, q1, q2⟩ := QP.out _ hJ13
      go_wp2_with fail
      refine (HZ.out _ hJ13).mono ?_
      rintro e w6 ⟨v6, rfl, Hown6, hb6⟩
      obtain ⟨Az, cz, rfl, hcz, hrz⟩ := own_rd Hown6.out
      have Hz := Lib.hid hrz
      have Hx6 := Lib.hid (Hx5.out.below hb6)
      have Hy6 := Lib.hid (Hy.out.below hb6)
      have hb7 := bnext (bnext hb5 hJ13) hb6
      have HF6 := Lib.hid (HF.out.below hb7)
      clear hrz Hown6 Hx5 Hy q0 q1 q2 HX HY HZ QP HF
      have hE1 : (E != E) = false := by simp
      have hL1 : ((L : Int) != L) = false := by simp
      go_wp2_with fail
      go_loopw [16] (fun iv wz => ∃ i : Nat, i ≤ L ∧ iv = .int .i64 i ∧ Hid (Below w6.heap.size w6 wz)) (fun iv _ => L - (intOf iv).toNat)
      case atStart => exact ⟨0, by omega, rfl, Below.refl _ _⟩
      case round =>
        obtain ⟨i, hi, rfl, Hbz⟩ := hrel
        by_cases hii : i < L
        · obtain ⟨b1, o1, rfl, hc1⟩ := (Hx6.out.below Hbz.out) i (.int .i64 (Lx.getD i 0)) (by rw [zv_get Lx i (by rw [HL.out]; exact hii)]; simp [List.getD_eq_getElem?_getD, List.getElem?_eq_getElem (show i < Lx.length by rw [HL.out]; exact hii)])
          obtain ⟨b2, o2, rfl, hc2⟩ := (Hy6.out.below Hbz.out) i (.int .i64 (Ly.getD i 0)) (by rw [zv_get Ly i (by rw [Hl1.out]; exact hii)]; simp [List.getD_eq_getElem?_getD, List.getElem?_eq_getElem (show i < Ly.length by rw [Hl1.out]; exact hii)])
          obtain ⟨b3, o3, rfl, hc3⟩ := (Hz.out.below Hbz.out) i (.int .i64 (Lx.getD i 0 + Ly.getD i 0)) (by rw [zv_get Lz i (by rw [Hl2.out]; exact hii), ← Hadd.out i hii]; simp [List.getD_eq_getElem?_getD, List.getElem?_eq_getElem (show i < Lz.length by rw [Hl2.out]; exact hii)])
          obtain ⟨g1, g2⟩ := Hbd.out i
          generalize Lx.getD i 0 = x at *
          generalize Ly.getD i 0 = y at *
          have hwx : IntKind.i64.wrap (x + y) = x + y := by rw [IntKind.wrap_i64]; omega
          have hi1 : (i : Int) < L := by omega
          have hi0 : (0 : Int) ≤ i := by omega
          have hne : ((x + y) != (x + y)) = false := by simp
          go_wp2_with fail
          go_quiet (fail)
          go_wp2_with fail
          go_roundw
          case rel => exact ⟨i + 1, by omega, by go_num, below_drewN Hbz.out _⟩
          case measure => simp [intOf] <;> omega
        · obtain rfl : i = L := by omega
          have hbz := bnext hb7 Hbz.out
          have HFz := Lib.hid (HF6.out.below Hbz.out)
          go_wp2_with fail
          refine (awake_any _ HFz.out).mono ?_
          rintro e w9 ⟨rfl, hb9⟩
          go_wp2_with fail
          go_ret
          exact ⟨rfl, bnext hbz hb9⟩
set_option maxRecDepth 100000 in
set_option maxHeartbeats 4000000 in
theorem adds_a (pr sh : Int) (cs la lb : List Int) (Ac A B : Option Addr) (cc ca cb : Nat) (w : World) (hF : FixAt w) (hrc : Rd w Ac (zv cs)) (hra : Rd w A (zv la)) (hrb : Rd w B (zv lb)) (hca : la.length ≤ ca) (hca63 : ca ≤ 9223372036854775807) (hcb : lb.length ≤ cb) (hcb63 : cb ≤ 9223372036854775807) (h40 : ¬ 40 < cs.length)
    (h100 : ¬ 100 < la.length) (hmin : ¬ (lb.length : Int) < la.length) :
    Calls Tryd.prog 5 #[.agg #[.int .i64 pr, .int .i64 sh, .slice Ac cs.length cc], .slice A la.length ca, .slice B lb.length cb] w fun e w' => e = .returned (.bool true) ∧ Below w.heap.size w w' := by
  have HF := Lib.hid hF; clear hF
  have Hra := Lib.hid hra
  have Hrb := Lib.hid hrb
  have HRes := Lib.hid (fun (W : World) (hW : Below w.heap.size w W) (l : List Int) (D : Option Addr) (d : Nat) (hD : Rd W D (zv l)) (hl : l.length ≤ 100) (h1 : l.length ≤ d) (h2 : d ≤ 9223372036854775807) => Residual_all pr 0 cs l Ac D cc d W (hrc.below hW) hD (by omega) (by omega) h1 h2)
  clear hra hrb hrc
  obtain ⟨m, hm⟩ : ∃ m, cs.length = m := ⟨_, rfl⟩
  rw [hm] at h40 HRes ⊢
  have Hm := Lib.hid hm
  clear hm
  obtain ⟨w1, hw1, hb1, hp⟩ : ∃ w1, (w.alloc (.cells #[.int .i64 pr, .int .i64 sh, .slice Ac m cc] 24)).setCell ⟨w.heap.size, 1, none⟩ (.int .i64 0) = w1 ∧ Below w.heap.size w w1 ∧ w1.heap[w.heap.size]? = some (.cells #[.int .i64 pr, .int .i64 0, .slice Ac m cc] 24 (0, 0)) :=
    ⟨_, rfl, ((Below.refl _ _).alloc (Nat.le_refl _) _).setCell (Nat.le_refl _) _, hrow_set (heap_alloc_last w _) rfl⟩
  have Hp := Lib.hid hp
  clear hp
  go_enter Tryd.func5, Tryd.ntmps5
  go_upto_region 5 with fail
  try rw [hw1]
  clear hw1
  go_wp2_with fail
  go_loopw [8, 9] (fun v iv wr => ∃ i : Nat, i ≤ la.length ∧ iv = .int .i64 i ∧ Hid (okA (la.take i) ∧ okA (lb.take i)) ∧ Hid (wr.ownsRow w1.heap.size 3 1 v i (zv (addL (la.take i) (lb.take i)))) ∧ Hid (Below w1.heap.size w1 wr)) (fun _ iv _ => la.length - (intOf iv).toNat)
  case atStart => exact ⟨0, by omega, rfl, ⟨fun x hx => by simp at hx, fun x hx => by simp at hx⟩, World.ownsRow_nil w1 w1.heap.size _ 1, Below.refl _ _⟩
  case round =>
    obtain ⟨i, hi, rfl, HO, Hv, Hb⟩ := hrel
    by_cases hii : i < la.length
    · have hia : i < la.length := by omega
      have hib : i < lb.length := by omega
      obtain ⟨b1, o1, rfl, hc1⟩ := (Hra.out.below (bnext hb1 Hb.out)) i (.int .i64 la[i]) (by simp [zv, hia])
      obtain ⟨b2, o2, rfl, hc2⟩ := (Hrb.out.below (bnext hb1 Hb.out)) i (.int .i64 lb[i]) (by simp [zv, hib])
      have Hsn := Lib.hid (addL_snoc la lb i hia hib)
      have Hoa := Lib.hid (okA_snoc la i hia HO.out.1)
      have Hob := Lib.hid (okA_snoc lb i hib HO.out.2)
      have HQ : Hid (∀ W : World, Below w1.heap.size w1 W → W.cell? ⟨b1, o1 + i, none⟩ = some (.int .i64 la[i]) ∧ W.cell? ⟨b2, o2 + i, none⟩ = some (.int .i64 lb[i])) := by
        intro W hW
        obtain ⟨b', o', e, h1⟩ := (Hra.out.below (bnext hb1 hW)) i (.int .i64 la[i]) (by simp [zv, hia])
        injection e with e; injection e with e1 e2; subst e1 e2
        obtain ⟨b', o', e, h2⟩ := (Hrb.out.below (bnext hb1 hW)) i (.int .i64 lb[i]) (by simp [zv, hib])
        injection e with e; injection e with e1 e2; subst e1 e2
        exact ⟨h1, h2⟩
      have HFr := Lib.hid (HF.out.below (bnext hb1 Hb.out))
      have hbe := bnext hb1 Hb.out
      generalize la[i] = x at *
      generalize lb[i] = y at *
      by_cases hout : x > 1073741824 ∨ x < -1073741824 ∨ y > 1073741824 ∨ y < -1073741824
      · have hd : (decide (x > 1073741824) || decide (x < -1073741824) || decide (y > 1073741824) || decide (y < -1073741824)) = true := by simp; omega
        by_cases q1 : x > 1073741824
        · go_wp2_with fail
          refine (awake_any _ HFr.out).mono ?_
          rintro e w3 ⟨rfl, hb3⟩
          go_wp2_with fail
          go_ret
          exact ⟨rfl, bnext hbe hb3⟩
        by_cases q2 : x < -1073741824
        · go_wp2_with fail
          refine (awake_any _ HFr.out).mono ?_
          rintro e w3 ⟨rfl, hb3⟩
          go_wp2_with fail
          go_ret
          exact ⟨rfl, bnext hbe hb3⟩
        by_cases q3 : y > 1073741824
        · go_wp2_with fail
          refine (awake_any _ HFr.out).mono ?_
          rintro e w3 ⟨rfl, hb3⟩
          go_wp2_with fail
          go_ret
          exact ⟨rfl, bnext hbe hb3⟩
        · have q4 : y < -1073741824 := by omega
          go_wp2_with fail
          refine (awake_any _ HFr.out).mono ?_
          rintro e w3 ⟨rfl, hb3⟩
          go_wp2_with fail
          go_ret
          exact ⟨rfl, bnext hbe hb3⟩
      · have q1 : ¬ x > 1073741824 := by omega
        have q2 : ¬ x < -1073741824 := by omega
        have q3 : ¬ y > 1073741824 := by omega
        have q4 : ¬ y < -1073741824 := by omega
        have HO2 : Hid (okA (la.take (i + 1)) ∧ okA (lb.take (i + 1))) := ⟨Hoa.out (by omega), Hob.out (by omega)⟩
        have hwx : IntKind.i64.wrap (x + y) = x + y := by rw [IntKind.wrap_i64]; omega
        have hi1 : (i : Int) < la.length := by omega
        have hi2 : (i : Int) < lb.length := by omega
        have hi0 : (0 : Int) ≤ i := by omega
        clear hout HFr HF
        go_wp2_with fail
        refine wp_region_headN (fun W' => W'.cell? ⟨b1, o1 + i, none⟩ = some (.int .i64 x) ∧ W'.cell? ⟨b2, o2 + i, none⟩ = some (.int .i64 y)) 10 3 (by kernel_rfl) rfl (by kernel_rfl) (HQ.out wr.drew (Hb.out.drew)) ?_
        simp only [List.take_succ_cons, List.take_zero]
        refine' wpHead_op _ (by rfl) ?hv11 ?hrest11
        case hv11 => (intro w' hS'; (try dsimp only at hS'); go_simp; try with_reducible rfl)
        try simp only [Act.put, List.setIfInBounds_toArray, List.set_cons_zero, List.set_cons_succ]
        refine' wpHead_op _ (by rfl) ?hv12 ?hrest12
        case hv12 => (intro w' hS'; (try dsimp only at hS'); go_simp; try with_reducible rfl)
        try simp only [Act.put, List.setIfInBounds_toArray, List.set_cons_zero, List.set_cons_succ]
        refine' wpHead_op _ (by rfl) ?hv13 ?hrest13
        case hv13 => (intro w' hS'; (try dsimp only at hS'); go_simp; try with_reducible rfl)
        try simp only [Act.put, List.setIfInBounds_toArray, List.set_cons_zero, List.set_cons_succ]
        refine' wpHead_op _ (by rfl) ?hv14 ?hrest14
        case hv14 => (intro w' hS'; (try dsimp only at hS'); go_simp; try with_reducible rfl)
        try simp only [Act.put, List.setIfInBounds_toArray, List.set_cons_zero, List.set_cons_succ]
        refine' wpHead_op _ (by rfl) ?hv15 ?hrest15
        case hv15 => (intro w' hS'; (try dsimp only at hS'); go_simp; try with_reducible rfl)
        try simp only [Act.put, List.setIfInBounds_toArray, List.set_cons_zero, List.set_cons_succ]
        refine' wpHead_op _ (by rfl) ?hv16 ?hrest16
        case hv16 => (intro w' hS'; (try dsimp only at hS'); go_simp; try with_reducible rfl)
        try simp only [Act.put, List.setIfInBounds_toArray, List.set_cons_zero, List.set_cons_succ]
        refine' wpHead_op _ (by rfl) ?hv17 ?hrest17
        case hv17 => (intro w' hS'; (try dsimp only at hS'); go_simp; try with_reducible rfl)
        try simp only [Act.put, List.setIfInBounds_toArray, List.set_cons_zero, List.set_cons_succ]
        refine' wpHead_op _ (by rfl) ?hv18 ?hrest18
        case hv18 => (intro w' hS'; (try dsimp only at hS'); go_simp; try with_reducible rfl)
        try simp only [Act.put, List.setIfInBounds_toArray, List.set_cons_zero, List.set_cons_succ]
        refine' wpHead_op _ (by rfl) ?hv19 ?hrest19
        case hv19 => (intro w' hS'; (try dsimp only at hS'); go_simp; try with_reducible rfl)
        try simp only [Act.put, List.setIfInBounds_toArray, List.set_cons_zero, List.set_cons_succ]
        refine' wpHead_op _ (by rfl) ?hv20 ?hrest20
        case hv20 => (intro w' hS'; (try dsimp only at hS'); go_simp; try with_reducible rfl)
        try simp only [Act.put, List.setIfInBounds_toArray, List.set_cons_zero, List.set_cons_succ]
        refine wpHead_nil ?_
        obtain ⟨wd, hwd, hb4, hv3⟩ : ∃ wd, wr.drew = wd ∧ Below w1.heap.size w1 wd ∧ wd.ownsRow w1.heap.size 3 1 u8 i (zv (addL (la.take i) (lb.take i))) := ⟨_, rfl, Hb.out.drew, Hv.out⟩
        have Hv3 := Lib.hid hv3
        rw [hwd]
        clear hwd hv3
        refine wpAnyH_next (i := 10) (by kernel_rfl) rfl (by rfl) (fun K hK => ?_)
        go_simp
        refine hK.out _ _ (HQ.out _ (bal hb4 _)) ?_
        clear hK K
        try simp only [Act.put, List.setIfInBounds_toArray, List.set_cons_zero, List.set_cons_succ]
        refine wpAnyH_next (i := 11) (by kernel_rfl) rfl (by rfl) (fun K hK => ?_)
        refine wp_app1 (w0 := w1) (W := wd.alloc (.cells #[.int .i64 (x + y)] 3)) (H := wd.heap.size) _ _ 22 rfl Tryd.underlying22 info_int rfl (by decide) rfl (Hv3.out.alloc _) (Nat.le_refl _) (by have := hb4.size; simp; omega) (bal hb4 _) rfl (heap_alloc_new wd _) rfl (one_int _ _) (by omega) (by unfold maxLen; omega) ?_
        intro v1 w6 own1 hb6 hs6
        have Hown1 := Lib.hid own1
        have Hb6 := Lib.hid hb6
        refine hK.out _ _ (HQ.out _ hb6) ?_
        clear hK K own1 Hv3 hb6 hb4
        try simp only [Act.put, List.setIfInBounds_toArray, List.set_cons_zero, List.set_cons_succ]
        refine wpAnyH_next (i := 12) (by kernel_rfl) rfl (by rfl) (fun K hK => ?_)
        go_simp
        refine hK.out _ _ (HQ.out _ Hb6.out) ?_
        clear hK K
        try simp only [Act.put, List.setIfInBounds_toArray, List.set_cons_zero, List.set_cons_succ]
        refine wpAnyH_doneN (by kernel_rfl) ?_
        go_wp2_with fail
        go_roundw
        case rel => exact ⟨i + 1, by omega, by go_num, HO2, by rw [Hsn.out]; exact Hown1, Hb6⟩
        case measure => simp [intOf] <;> omega
    · obtain rfl : i = la.length := by omega
      obtain ⟨A3, c3, rfl, hc3, hm3, hr3⟩ := own_rd3 Hv.out
      have Hr3 := Lib.hid hr3
      have Hla : Hid ((la.take la.length).length = la.length) := by show _ = _; rw [List.length_take]; omega
      have Hlb : Hid ((lb.take la.length).length = la.length) := by show _ = _; rw [List.length_take]; omega
      have Hlc : Hid ((addL (la.take la.length) (lb.take la.length)).length = la.length) := by show _ = _; rw [addL_length _ _ (by rw [Hla.out, Hlb.out]), Hla.out]
      obtain ⟨e1, e2, l1, l2, hadd, hbd⟩ := add_law pr cs (la.take la.length) (lb.take la.length) (by rw [Hla.out, Hlb.out]) HO.out.1 HO.out.2
      have hb5 := bnext hb1 Hb.out
      have HX : Hid (∀ W : World, Below wr.heap.size wr W → Calls Tryd.prog 9 #[.agg #[.int .i64 pr, .int .i64 0, .slice Ac m cc], .slice A (la.length) ca] W fun e w' => ∃ v, e = .returned (.tuple #[v, .int .i64 (resE pr 0 cs (la.take la.length))]) ∧ Hid (w'.ownsRow W.heap.size 3 1 v (resL pr 0 cs (la.take la.length)).length (zv (resL pr 0 cs (la.take la.length)))) ∧ Below W.heap.size W w') := by
        intro W hW
        have h := HRes.out W (bnext hb5 hW) (la.take la.length) A ca (by rw [zv_take]; exact (Hra.out.below (bnext hb5 hW)).take _) (by rw [Hla.out]; omega) (by rw [Hla.out]; omega) hca63
        rw [Hla.out] at h
        exact h
      have HY : Hid (∀ W : World, Below wr.heap.size wr W → Calls Tryd.prog 9 #[.agg #[.int .i64 pr, .int .i64 0, .slice Ac m cc], .slice B (la.length) cb] W fun e w' => ∃ v, e = .returned (.tuple #[v, .int .i64 (resE pr 0 cs (la.take la.length))]) ∧ Hid (w'.ownsRow W.heap.size 3 1 v (resL pr 0 cs (la.take la.length)).length (zv (resL pr 0 cs (lb.take la.length)))) ∧ Below W.heap.size W w') := by
        intro W hW
        have h := HRes.out W (bnext hb5 hW) (lb.take la.length) B cb (by rw [zv_take]; exact (Hrb.out.below (bnext hb5 hW)).take _) (by rw [Hlb.out]; omega) (by rw [Hlb.out]; omega) hcb63
        rw [Hlb.out, e1, l1] at h
        exact h
      have HZ : Hid (∀ W : World, Below wr.heap.size wr W → Calls Tryd.prog 9 #[.agg #[.int .i64 pr, .int .i64 0, .slice Ac m cc], .slice A3 (la.length) c3] W fun e w' => ∃ v, e = .returned (.tuple #[v, .int .i64 (resE pr 0 cs (la.take la.length))]) ∧ Hid (w'.ownsRow W.heap.size 3 1 v (resL pr 0 cs (la.take la.length)).length (zv (resL pr 0 cs (addL (la.take la.length) (lb.take la.length))))) ∧ Below W.heap.size W w') := by
        intro W hW
        have h := HRes.out W (bnext hb5 hW) (addL (la.take la.length) (lb.take la.length)) A3 c3 (Hr3.out.below hW) (by rw [Hlc.out]; omega) (by rw [Hlc.out]; omega) hm3
        rw [Hlc.out, e2, l2] at h
        exact h
      have Hadd := Lib.hid hadd
      have Hbd := Lib.hid hbd
      have Hl1 := Lib.hid l1
      have Hl2 := Lib.hid l2
      have hlen : (resL pr 0 cs (la.take la.length)).length ≤ 100 := by
        unfold resL
        split
        · rw [resN_length, Hla.out]; omega
        · simp
      clear e1 e2 l1 l2 hadd hbd hr3 HRes HO Hv Hlc Hla Hlb
      generalize resE pr 0 cs (la.take la.length) = E at *
      generalize resL pr 0 cs (addL (la.take la.length) (lb.take la.length)) = Lz at *
      generalize resL pr 0 cs (la.take la.length) = Lx at *
      generalize resL pr 0 cs (lb.take la.length) = Ly at *
      obtain ⟨L, hL⟩ : ∃ L, Lx.length = L := ⟨_, rfl⟩
      rw [hL] at HX HY HZ Hadd hlen Hl1 Hl2
      have HL := Lib.hid hL
      clear hL
      have QP : Hid (∀ W : World, Below wr.heap.size wr W → W.cell? ⟨w.heap.size, 0, none⟩ = some (.int .i64 pr) ∧ W.cell? ⟨w.heap.size, 1, none⟩ = some (.int .i64 0) ∧ W.cell? ⟨w.heap.size, 2, none⟩ = some (.slice Ac m cc)) := by
        intro W hW
        have h : W.heap[w.heap.size]? = some (.cells #[.int .i64 pr, .int .i64 0, .slice Ac m cc] 24 (0, 0)) := hrow_below (hrow_below Hp.out Hb.out) hW
        exact ⟨cell_of_row W _ _ _ _ _ h, cell_of_row W _ _ _ _ _ h, cell_of_row W _ _ _ _ _ h⟩
      have hn1 : (la.length : Int) ≤ la.length := by omega
      have hn2 : (la.length : Int) ≤ lb.length := by omega
      have hn3 : (la.length : Int) ≤ ca := by omega
      have hn4 : (la.length : Int) ≤ cb := by omega
      have hn5 : la.length ≤ ca := by omega
      have hn6 : la.length ≤ cb := by omega
      go_wp2_with fail
      refine wp_region_specs [
        Spec.val (.agg #[.int .i64 pr, .int .i64 0, .slice Ac m cc]),
        Spec.val ((.slice A la.length ca)),
        Spec.val ((.int .i64 (la.length : Nat))),
        Spec.val ((.slice A (la.length) ca)),
        Tup.spec L E (zv Lx),
        Tup.spec L E (zv Lx),
        Slc.spec L (zv Lx),
        Spec.val ((.int .i64 E)),
        Slc.spec L (zv Lx),
        Spec.val ((.int .i64 E))] wr (by kernel_rfl) (by repeat (first | exact Below.refl _ _ | assumption | refine below_drewN ?_ _ | refine Below.drew ?_ | refine Below.alloc ?_ (Nat.le_refl _) _ | refine bal ?_ _ | refine bnext ?_ (by assumption))) (n := 141) rfl (by decide +kernel) ⟨?_, ?_, ?_, ?_, ?_, ?_, ?_, ?_, ?_, ?_, trivial⟩ ?_
      · intro ac wd hJ hfr hdep
        have s3 : ac.tmps.getD 3 undef = .pointer (some ⟨w.heap.size, 0, none⟩) := (hfr 3 (by decide)).trans rfl
        have s3' := slot' s3
        clear hfr hdep
        refine if_wanted rfl (fun Q => op_any (fun K hK => ?_))
        obtain ⟨x0, x1, x2⟩ := QP.out wd (hJ)
        go_simp
        exact hK _ _ rfl hJ (Below.refl _ _)
      · intro ac wd hJ hfr hdep
        have s1 : ac.tmps.getD 1 undef = (.slice A la.length ca) := (hfr 1 (by decide)).trans rfl
        have s1' := slot' s1
        clear hfr hdep
        refine if_wanted rfl (fun Q => op_any (fun K hK => ?_))
        go_simp
        exact hK _ _ rfl hJ (Below.refl _ _)
      · intro ac wd hJ hfr hdep
        have s7 : ac.tmps.getD 7 undef = (.int .i64 (la.length : Nat)) := (hfr 7 (by decide)).trans rfl
        have s7' := slot' s7
        clear hfr hdep
        refine if_wanted rfl (fun Q => op_any (fun K hK => ?_))
        go_simp
        exact hK _ _ rfl hJ (Below.refl _ _)
      · intro ac wd hJ hfr hdep
        have s78 : ac.tmps.getD 78 undef = (.slice A la.length ca) := hdep 1 _ 78 (by decide) rfl rfl
        have s79 : ac.tmps.getD 79 undef = (.int .i64 (la.length : Nat)) := hdep 2 _ 79 (by decide) rfl rfl
        have s78' := slot' s78
        have s79' := slot' s79
        clear hfr hdep
        refine if_wanted rfl (fun Q => op_any (fun K hK => ?_))
        go_simp
        exact hK _ _ rfl hJ (Below.refl _ _)
      · intro ac wd hJ hfr hdep
        have s77 : ac.tmps.getD 77 undef = .agg #[.int .i64 pr, .int .i64 0, .slice Ac m cc] := hdep 0 _ 77 (by decide) rfl rfl
        have s80 : ac.tmps.getD 80 undef = (.slice A (la.length) ca) := hdep 3 _ 80 (by decide) rfl rfl
        have s77' := slot' s77
        have s80' := slot' s80
        clear hfr hdep
        refine if_wanted rfl (fun Q => op_any (fun K hK => ?_))
        go_simp
        refine (HX.out _ (hJ)).mono ?_
        rintro e wz ⟨v, rfl, hown, hbz⟩
        obtain ⟨A, c, rfl, hc, hr⟩ := own_rd hown.out
        exact hK _ _ ⟨A, c, rfl, hr⟩ (bnext hJ hbz) hbz
      · intro ac wd hJ hfr hdep
        obtain ⟨A81, c81, s81, hr81⟩ := hdep 4 _ 81 (by decide) rfl rfl
        have s81' := slot' s81
        clear hfr hdep
        refine if_wanted rfl (fun Q => op_any (fun K hK => ?_))
        go_simp
        exact hK _ _ ⟨A81, c81, rfl, hr81⟩ hJ (Below.refl _ _)
      · intro ac wd hJ hfr hdep
        obtain ⟨A76, c76, s76, hr76⟩ := hdep 5 _ 76 (by decide) rfl rfl
        have s76' := slot' s76
        clear hfr hdep
        refine if_wanted rfl (fun Q => op_any (fun K hK => ?_))
        go_simp
        exact hK _ _ ⟨A76, c76, rfl, hr76⟩ hJ (Below.refl _ _)
      · intro ac wd hJ hfr hdep
        obtain ⟨A76, c76, s76, hr76⟩ := hdep 5 _ 76 (by decide) rfl rfl
        have s76' := slot' s76
        clear hfr hdep
        refine if_wanted rfl (fun Q => op_any (fun K hK => ?_))
        go_simp
        exact hK _ _ rfl hJ (Below.refl _ _)
      · intro ac wd hJ hfr hdep
        obtain ⟨A82, c82, s82, hr82⟩ := hdep 6 _ 82 (by decide) rfl rfl
        have s82' := slot' s82
        clear hfr hdep
        refine if_wanted rfl (fun Q => op_any (fun K hK => ?_))
        go_simp
        exact hK _ _ ⟨A82, c82, rfl, hr82⟩ hJ (Below.refl _ _)
      · intro ac wd hJ hfr hdep
        have s83 : ac.tmps.getD 83 undef = (.int .i64 E) := hdep 7 _ 83 (by decide) rfl rfl
        have s83' := slot' s83
        clear hfr hdep
        refine if_wanted rfl (fun Q => op_any (fun K hK => ?_))
        go_simp
        exact hK _ _ rfl hJ (Below.refl _ _)
      intro f w' hJ hR
      have e0 : f 0 = .agg #[.int .i64 pr, .int .i64 0, .slice Ac m cc] := hR 0 (by decide)
      have e1 : f 1 = (.slice A la.length ca) := hR 1 (by decide)
      have e2 : f 2 = (.int .i64 (la.length : Nat)) := hR 2 (by decide)
      have e3 : f 3 = (.slice A (la.length) ca) := hR 3 (by decide)
      obtain ⟨A4', c4', e4, hr4'⟩ := hR 4 (by decide)
      obtain ⟨A5', c5', e5, hr5'⟩ := hR 5 (by decide)
      obtain ⟨A6', c6', e6, hr6'⟩ := hR 6 (by decide)
      have e7 : f 7 = (.int .i64 E) := hR 7 (by decide)
      obtain ⟨A8', c8', e8, hr8'⟩ := hR 8 (by decide)
      have e9 : f 9 = (.int .i64 E) := hR 9 (by decide)
      clear hR
      simp only [finA, Act.put, List.setIfInBounds_toArray, List.set_cons_succ, List.set_cons_zero, Nat.reduceAdd, e0, e1, e2, e3, e4, e5, e6, e7, e8, e9]
      clear e0 e1 e2 e3 e4 e5 e6 e7 e8 e9
      have Hx := Lib.hid hr8'
      have hJ12 := hJ
      clear hr8'
      generalize A8' = Ax at *
      generalize c8' = cx at *
      obtain ⟨w4, rfl⟩ : ∃ w4, w4 = w' := ⟨_, rfl⟩
      go_wp2_with fail
      refine wp_region_specs [
        Spec.val (.agg #[.int .i64 pr, .int .i64 0, .slice Ac m cc]),
        Spec.val ((.slice B lb.length cb)),
        Spec.val ((.int .i64 (la.length : Nat))),
        Spec.val ((.slice B (la.length) cb)),
        Tup.spec L E (zv Ly),
        Tup.spec L E (zv Ly),
        Slc.spec L (zv Ly),
        Spec.val ((.int .i64 E)),
        Slc.spec L (zv Ly),
        Spec.val ((.int .i64 E))] w4 (by kernel_rfl) (by repeat (first | exact Below.refl _ _ | assumption | refine below_drewN ?_ _ | refine Below.drew ?_ | refine Below.alloc ?_ (Nat.le_refl _) _ | refine bal ?_ _ | refine bnext ?_ (by assumption))) (n := 141) rfl (by decide +kernel) ⟨?_, ?_, ?_, ?_, ?_, ?_, ?_, ?_, ?_, ?_, trivial⟩ ?_
      · intro ac wd hJ hfr hdep
        have s3 : ac.tmps.getD 3 undef = .pointer (some ⟨w.heap.size, 0, none⟩) := (hfr 3 (by decide)).trans rfl
        have s3' := slot' s3
        clear hfr hdep
        refine if_wanted rfl (fun Q => op_any (fun K hK => ?_))
        obtain ⟨x0, x1, x2⟩ := QP.out wd (bnext hJ12 hJ)
        go_simp
        exact hK _ _ rfl hJ (Below.refl _ _)
      · intro ac wd hJ hfr hdep
        have s2 : ac.tmps.getD 2 undef = (.slice B lb.length cb) := (hfr 2 (by decide)).trans rfl
        have s2' := slot' s2
        clear hfr hdep
        refine if_wanted rfl (fun Q => op_any (fun K hK => ?_))
        go_simp
        exact hK _ _ rfl hJ (Below.refl _ _)
      · intro ac wd hJ hfr hdep
        have s7 : ac.tmps.getD 7 undef = (.int .i64 (la.length : Nat)) := (hfr 7 (by decide)).trans rfl
        have s7' := slot' s7
        clear hfr hdep
        refine if_wanted rfl (fun Q => op_any (fun K hK => ?_))
        go_simp
        exact hK _ _ rfl hJ (Below.refl _ _)
      · intro ac wd hJ hfr hdep
        have s86 : ac.tmps.getD 86 undef = (.slice B lb.length cb) := hdep 1 _ 86 (by decide) rfl rfl
        have s87 : ac.tmps.getD 87 undef = (.int .i64 (la.length : Nat)) := hdep 2 _ 87 (by decide) rfl rfl
        have s86' := slot' s86
        have s87' := slot' s87
        clear hfr hdep
        refine if_wanted rfl (fun Q => op_any (fun K hK => ?_))
        go_simp
        exact hK _ _ rfl hJ (Below.refl _ _)
      · intro ac wd hJ hfr hdep
        have s85 : ac.tmps.getD 85 undef = .agg #[.int .i64 pr, .int .i64 0, .slice Ac m cc] := hdep 0 _ 85 (by decide) rfl rfl
        have s88 : ac.tmps.getD 88 undef = (.slice B (la.length) cb) := hdep 3 _ 88 (by decide) rfl rfl
        have s85' := slot' s85
        have s88' := slot' s88
        clear hfr hdep
        refine if_wanted rfl (fun Q => op_any (fun K hK => ?_))
        go_simp
        refine (HY.out _ (bnext hJ12 hJ)).mono ?_
        rintro e wz ⟨v, rfl, hown, hbz⟩
        obtain ⟨A, c, rfl, hc, hr⟩ := own_rd hown.out
        exact hK _ _ ⟨A, c, rfl, hr⟩ (bnext hJ hbz) hbz
      · intro ac wd hJ hfr hdep
        obtain ⟨A89, c89, s89, hr89⟩ := hdep 4 _ 89 (by decide) rfl rfl
        have s89' := slot' s89
        clear hfr hdep
        refine if_wanted rfl (fun Q => op_any (fun K hK => ?_))
        go_simp
        exact hK _ _ ⟨A89, c89, rfl, hr89⟩ hJ (Below.refl _ _)
      · intro ac wd hJ hfr hdep
        obtain ⟨A84, c84, s84, hr84⟩ := hdep 5 _ 84 (by decide) rfl rfl
        have s84' := slot' s84
        clear hfr hdep
        refine if_wanted rfl (fun Q => op_any (fun K hK => ?_))
        go_simp
        exact hK _ _ ⟨A84, c84, rfl, hr84⟩ hJ (Below.refl _ _)
      · intro ac wd hJ hfr hdep
        obtain ⟨A84, c84, s84, hr84⟩ := hdep 5 _ 84 (by decide) rfl rfl
        have s84' := slot' s84
        clear hfr hdep
        refine if_wanted rfl (fun Q => op_any (fun K hK => ?_))
        go_simp
        exact hK _ _ rfl hJ (Below.refl _ _)
      · intro ac wd hJ hfr hdep
        obtain ⟨A90, c90, s90, hr90⟩ := hdep 6 _ 90 (by decide) rfl rfl
        have s90' := slot' s90
        clear hfr hdep
        refine if_wanted rfl (fun Q => op_any (fun K hK => ?_))
        go_simp
        exact hK _ _ ⟨A90, c90, rfl, hr90⟩ hJ (Below.refl _ _)
      · intro ac wd hJ hfr hdep
        have s91 : ac.tmps.getD 91 undef = (.int .i64 E) := hdep 7 _ 91 (by decide) rfl rfl
        have s91' := slot' s91
        clear hfr hdep
        refine if_wanted rfl (fun Q => op_any (fun K hK => ?_))
        go_simp
        exact hK _ _ rfl hJ (Below.refl _ _)
      intro f w' hJ hR
      have e0 : f 0 = .agg #[.int .i64 pr, .int .i64 0, .slice Ac m cc] := hR 0 (by decide)
      have e1 : f 1 = (.slice B lb.length cb) := hR 1 (by decide)
      have e2 : f 2 = (.int .i64 (la.length : Nat)) := hR 2 (by decide)
      have e3 : f 3 = (.slice B (la.length) cb) := hR 3 (by decide)
      obtain ⟨A4', c4', e4, hr4'⟩ := hR 4 (by decide)
      obtain ⟨A5', c5', e5, hr5'⟩ := hR 5 (by decide)
      obtain ⟨A6', c6', e6, hr6'⟩ := hR 6 (by decide)
      have e7 : f 7 = (.int .i64 E) := hR 7 (by decide)
      obtain ⟨A8', c8', e8, hr8'⟩ := hR 8 (by decide)
      have e9 : f 9 = (.int .i64 E) := hR 9 (by decide)
      clear hR
      simp only [finA, Act.put, List.setIfInBounds_toArray, List.set_cons_succ, List.set_cons_zero, Nat.reduceAdd, e0, e1, e2, e3, e4, e5, e6, e7, e8, e9]
      clear e0 e1 e2 e3 e4 e5 e6 e7 e8 e9
      have hJ13 := bnext hJ12 hJ
      have Hx5 := Lib.hid (Hx.out.below hJ)
      have Hy := Lib.hid hr8'
      clear hr8' Hx
      generalize A8' = Ay at *
      generalize c8' = cy at *
      obtain ⟨w5, rfl⟩ : ∃ w5, w5 = w' := ⟨_, rfl⟩
      obtain ⟨q0, q1, q2⟩ := QP.out _ hJ13
      go_wp2_with fail
      refine (HZ.out _ hJ13).mono ?_
      rintro e w6 ⟨v6, rfl, Hown6, hb6⟩
      obtain ⟨Az, cz, rfl, hcz, hrz⟩ := own_rd Hown6.out
      have Hz := Lib.hid hrz
      have Hx6 := Lib.hid (Hx5.out.below hb6)
      have Hy6 := Lib.hid (Hy.out.below hb6)
      have hb7 := bnext (bnext hb5 hJ13) hb6
      have HF6 := Lib.hid (HF.out.below hb7)
      clear hrz Hown6 Hx5 Hy q0 q1 q2 HX HY HZ QP HF
      have hE1 : (E != E) = false := by simp
      have hL1 : ((L : Int) != L) = false := by simp
      go_wp2_with fail
      go_loopw [16] (fun iv wz => ∃ i : Nat, i ≤ L ∧ iv = .int .i64 i ∧ Hid (Below w6.heap.size w6 wz)) (fun iv _ => L - (intOf iv).toNat)
      case atStart => exact ⟨0, by omega, rfl, Below.refl _ _⟩
      case round =>
        obtain ⟨i, hi, rfl, Hbz⟩ := hrel
        by_cases hii : i < L
        · obtain ⟨b1, o1, rfl, hc1⟩ := (Hx6.out.below Hbz.out) i (.int .i64 (Lx.getD i 0)) (by rw [zv_get Lx i (by rw [HL.out]; exact hii)]; simp [List.getD_eq_getElem?_getD, List.getElem?_eq_getElem (show i < Lx.length by rw [HL.out]; exact hii)])
          obtain ⟨b2, o2, rfl, hc2⟩ := (Hy6.out.below Hbz.out) i (.int .i64 (Ly.getD i 0)) (by rw [zv_get Ly i (by rw [Hl1.out]; exact hii)]; simp [List.getD_eq_getElem?_getD, List.getElem?_eq_getElem (show i < Ly.length by rw [Hl1.out]; exact hii)])
          obtain ⟨b3, o3, rfl, hc3⟩ := (Hz.out.below Hbz.out) i (.int .i64 (Lx.getD i 0 + Ly.getD i 0)) (by rw [zv_get Lz i (by rw [Hl2.out]; exact hii), ← Hadd.out i hii]; simp [List.getD_eq_getElem?_getD, List.getElem?_eq_getElem (show i < Lz.length by rw [Hl2.out]; exact hii)])
          obtain ⟨g1, g2⟩ := Hbd.out i
          generalize Lx.getD i 0 = x at *
          generalize Ly.getD i 0 = y at *
          have hwx : IntKind.i64.wrap (x + y) = x + y := by rw [IntKind.wrap_i64]; omega
          have hi1 : (i : Int) < L := by omega
          have hi0 : (0 : Int) ≤ i := by omega
          have hne : ((x + y) != (x + y)) = false := by simp
          go_wp2_with fail
          go_quiet (fail)
          go_wp2_with fail
          go_roundw
          case rel => exact ⟨i + 1, by omega, by go_num, below_drewN Hbz.out _⟩
          case measure => simp [intOf] <;> omega
        · obtain rfl : i = L := by omega
          have hbz := bnext hb7 Hbz.out
          have HFz := Lib.hid (HF6.out.below Hbz.out)
          go_wp2_with fail
          refine (awake_any _ HFz.out).mono ?_
          rintro e w9 ⟨rfl, hb9⟩
          go_wp2_with fail
          go_ret
          exact ⟨rfl, bnext hbz hb9⟩
end Go.Proofs.YtghnjgemjiekgaaDoor
