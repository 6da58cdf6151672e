/-
  predict.Residual: what it answers, and its walk.
-/
import Derived.Test.YtghnjgemjiekgaaDoorCheck06
import Derived.Test.YtghnjgemjiekgaaDoorL2
import Derived.Test.YtghnjgemjiekgaaDoorAppN
namespace Go.Proofs.YtghnjgemjiekgaaDoor
open Go.RowKit

def resN (cs : List Int) (sh : Nat) (ls : List Int) : List Int := (List.range (ls.length - cs.length)).map fun j => ls.getD (cs.length + j) 0 - toldN cs sh (ls.take (cs.length + j))
def resE (pr sh : Int) (cs ls : List Int) : Int := if okL pr sh cs = false then 10 else if ls.length < cs.length then 1 else if ls.any outS = true then 10 else 0
def resL (pr sh : Int) (cs ls : List Int) : List Int := if resE pr sh cs ls = 0 then resN cs sh.toNat ls else []
theorem dotN_bd (cs ls : List Int) (hcs : ∀ c ∈ cs, -16384 ≤ c ∧ c ≤ 16384) (hs : okS ls) : ∀ k : Nat, -(70368744177664 * (k : Int)) ≤ dotN cs ls k ∧ dotN cs ls k ≤ 70368744177664 * (k : Int)
  | 0 => by simp [dotN]
  | k + 1 => by
    have ih := dotN_bd cs ls hcs hs k
    have hc : -16384 ≤ cs.getD k 0 ∧ cs.getD k 0 ≤ 16384 := by
      rw [List.getD_eq_getElem?_getD]
      cases e : cs[k]? with
      | none => simp
      | some c => exact hcs c (List.mem_of_getElem? e)
    have h2 := mul_bd _ _ hc (okS_get hs (ls.length - 1 - k))
    rw [dotN]
    omega
theorem toldN_bd (cs ls : List Int) (sh : Nat) (hcs : ∀ c ∈ cs, -16384 ≤ c ∧ c ≤ 16384) (hm : cs.length ≤ 32) (hs : okS ls) : -2251799813685248 ≤ toldN cs sh ls ∧ toldN cs sh ls ≤ 2251799813685248 := by
  have h := dotN_bd cs (ls.drop (ls.length - cs.length)) hcs (okS_drop hs _) cs.length
  unfold toldN
  generalize dotN cs (ls.drop (ls.length - cs.length)) cs.length = d at *
  have hp : (0 : Int) < 2 ^ sh := Int.pow_pos (by omega)
  constructor
  · rw [Int.le_ediv_iff_mul_le hp]
    have : (1 : Int) ≤ 2 ^ sh := hp
    generalize (2 : Int) ^ sh = q at *
    omega
  · have h3 : d / 2 ^ sh ≤ 2251799813685248 := by
      rcases Int.le_total 0 d with h0 | h0
      · have := Int.ediv_le_self (2 ^ sh) h0
        omega
      · have : d / 2 ^ sh ≤ 0 := by
          have h5 := Int.ediv_le_ediv hp h0
          simpa using h5
        omega
    exact h3
theorem okS_of (ls : List Int) (h : ls.any outS = false) : okS ls := by
  intro x hx
  have := List.any_eq_false.1 h x hx
  simp only [outS, Bool.or_eq_true, decide_eq_true_eq, not_or] at this
  omega
theorem okS_take {ls : List Int} (h : okS ls) (k : Nat) : okS (ls.take k) := fun x hx => h x (List.mem_of_mem_take hx)
theorem okL_spec {pr sh : Int} {cs : List Int} (h : okL pr sh cs = true) : cs.length ≤ 32 ∧ (0 ≤ sh ∧ sh ≤ 15) ∧ ∀ c ∈ cs, -16384 ≤ c ∧ c ≤ 16384 := by
  simp only [okL, numB, Bool.and_eq_true, decide_eq_true_eq, Bool.not_eq_true'] at h
  obtain ⟨⟨⟨h1, h2⟩, h3⟩, h4⟩ := h
  refine ⟨h1, h3, fun c hc => ?_⟩
  have := List.any_eq_false.1 h4 c hc
  simp only [outC, Bool.or_eq_true, decide_eq_true_eq, not_or] at this
  have hb := pow_bd (pr - 1).toNat (by omega)
  omega
theorem zv_take (l : List Int) (k : Nat) : zv (l.take k) = (zv l).take k := by simp [zv]
theorem zv_snoc (l : List Int) (x : Int) : zv (l ++ [x]) = zv l ++ [.int .i64 x] := by simp [zv]
theorem info_int : (Tryd.prog.info? 3).map (fun i => (i.zero, i.size, i.bytes)) = some (some (.int .i64 0), 1, 8) := by kernel_rfl

set_option maxHeartbeats 1000000 in
theorem Residual_no (pr sh : Int) (cs ls : List Int) (Ac A : Option Addr) (cc c : Nat) (w : World) (hrc : Rd w Ac (zv cs)) (hrl : Rd w A (zv ls)) (hl1 : cs.length ≤ 9223372036854775807) (hl2 : ls.length ≤ 9223372036854775807) (hE : resE pr sh cs ls ≠ 0) :
    Calls Tryd.prog 9 #[.agg #[.int .i64 pr, .int .i64 sh, .slice Ac cs.length cc], .slice A ls.length c] w fun e w' => e = .returned (.tuple #[.slice none 0 0, .int .i64 (resE pr sh cs ls)]) ∧ Below w.heap.size w w' := by
  have HC := Lib.hid (fun W (hW : Below w.heap.size w W) => Check_any pr sh cs Ac cc W (hrc.below hW) hl1)
  have HM := Lib.hid (fun W (hW : Below w.heap.size w W) => may_any ls A c W (hrl.below hW) hl2)
  obtain ⟨E, hEe⟩ : ∃ E, resE pr sh cs ls = E := ⟨_, rfl⟩
  rw [hEe] at hE ⊢
  have HE : Hid (E = if okL pr sh cs = false then 10 else if ls.length < cs.length then 1 else if ls.any outS = true then 10 else 0) := hEe.symm
  clear hEe hrc hrl
  generalize okL pr sh cs = ok at *
  generalize ls.any outS = an at *
  generalize cs.length = m at *
  generalize ls.length = n at *
  go_enter Tryd.func9, Tryd.ntmps9
  go_wp2_with fail
  refine (HC.out _ (by repeat (first | exact Below.refl _ _ | assumption | refine below_drewN ?_ _ | refine Below.drew ?_ | refine Below.alloc ?_ (Nat.le_refl _) _ | refine bal ?_ _ | refine bnext ?_ (by assumption)))).mono ?_
  rintro e w1 ⟨rfl, hb1⟩
  have hp2 : w1.cell? ⟨w.heap.size, 2, none⟩ = some (.slice Ac m cc) := (hb1.cell (p := ⟨w.heap.size, 2, none⟩) (by simp)).trans (by go_simp)
  have hb2 : Below w.heap.size w w1 := by repeat (first | exact Below.refl _ _ | assumption | refine below_drewN ?_ _ | refine Below.drew ?_ | refine Below.alloc ?_ (Nat.le_refl _) _ | refine bal ?_ _ | refine bnext ?_ (by assumption))
  clear hb1 HC
  cases ok with
  | false =>
    have HE1 : Hid (E = 10) := by show _ = _; rw [HE.out]; rfl
    simp only [chkP]
    go_wp2_with fail
    go_ret2
    exact ⟨by rw [HE1.out]; rfl, hb2⟩
  | true =>
    simp only [chkP]
    by_cases hlt : n < m
    · have HE1 : Hid (E = 1) := by show _ = _; rw [HE.out, if_neg (by decide), if_pos hlt]
      go_wp2_with fail
      go_ret2
      exact ⟨by rw [HE1.out]; rfl, hb2⟩
    · cases an with
      | false => exact absurd (by rw [HE.out, if_neg (by decide), if_neg hlt, if_neg (by decide)]) hE
      | true =>
        have HE1 : Hid (E = 10) := by show _ = _; rw [HE.out, if_neg (by decide), if_neg hlt, if_pos rfl]
        go_wp2_with fail
        refine (HM.out _ hb2).mono ?_
        rintro e w3 ⟨rfl, rfl⟩
        go_wp2_with fail
        go_ret2
        exact ⟨by rw [HE1.out]; rfl, hb2⟩

theorem resN_length (cs : List Int) (sh : Nat) (ls : List Int) : (resN cs sh ls).length = ls.length - cs.length := by simp [resN]
theorem resN_snoc (cs : List Int) (sh : Nat) (ls : List Int) (j : Nat) (h : cs.length + j < ls.length) : zv ((resN cs sh ls).take (j + 1)) = zv ((resN cs sh ls).take j) ++ [.int .i64 (ls.getD (cs.length + j) 0 - toldN cs sh (ls.take (cs.length + j)))] := by
  rw [List.take_succ_eq_append_getElem (by rw [resN_length]; omega), zv_snoc]
  simp [resN]

set_option maxRecDepth 100000 in
set_option maxHeartbeats 2000000 in
theorem Residual_ok (pr sh : Int) (cs ls : List Int) (Ac A : Option Addr) (cc c : Nat) (w : World) (hrc : Rd w Ac (zv cs)) (hrl : Rd w A (zv ls)) (hl2 : ls.length ≤ 1000000) (hcap : ls.length ≤ c) (hcap63 : c ≤ 9223372036854775807) (hE : resE pr sh cs ls = 0) :
    Calls Tryd.prog 9 #[.agg #[.int .i64 pr, .int .i64 sh, .slice Ac cs.length cc], .slice A ls.length c] w fun e w' => ∃ v, e = .returned (.tuple #[v, .int .i64 0]) ∧ Hid (w'.ownsRow w.heap.size 3 1 v (resN cs sh.toNat ls).length (zv (resN cs sh.toNat ls))) ∧ Below w.heap.size w w' := by
  have hok : okL pr sh cs = true := by
    cases h : okL pr sh cs with
    | true => rfl
    | false => rw [resE, if_pos h] at hE; cases hE
  have hlt : ¬ ls.length < cs.length := by
    intro h; rw [resE, if_neg (by rw [hok]; decide), if_pos h] at hE; cases hE
  have han : ls.any outS = false := by
    cases h : ls.any outS with
    | false => rfl
    | true => rw [resE, if_neg (by rw [hok]; decide), if_neg hlt, if_pos h] at hE; cases hE
  have HC := Lib.hid (fun W (hW : Below w.heap.size w W) => Check_any pr sh cs Ac cc W (hrc.below hW) (by omega))
  have HM := Lib.hid (fun W (hW : Below w.heap.size w W) => may_any ls A c W (hrl.below hW) (by omega))
  rw [hok] at HC
  rw [han] at HM
  obtain ⟨hm32, hsh, hcs⟩ := okL_spec hok
  have hsk := okS_of ls han
  obtain ⟨sn, rfl⟩ : ∃ sn : Nat, sh = sn := ⟨sh.toNat, by omega⟩
  rw [Int.toNat_natCast]
  have hsn : sn ≤ 15 := by omega
  have Hrc := Lib.hid hrc
  have Hrl := Lib.hid hrl
  have Hcs := Lib.hid hcs
  have Hsk := Lib.hid hsk
  have Hrl2 : Hid ((resN cs sn ls).length = ls.length - cs.length) := resN_length _ _ _
  clear hok han hE hrc hrl hcs hsk hsh
  go_enter Tryd.func9, Tryd.ntmps9
  go_wp2_with fail
  refine (HC.out _ (by repeat (first | exact Below.refl _ _ | assumption | refine below_drewN ?_ _ | refine Below.drew ?_ | refine Below.alloc ?_ (Nat.le_refl _) _ | refine bal ?_ _ | refine bnext ?_ (by assumption)))).mono ?_
  rintro e w1 ⟨rfl, hb1⟩
  have hq0 : w1.cell? ⟨w.heap.size, 0, none⟩ = some (.int .i64 pr) := (hb1.cell (p := ⟨w.heap.size, 0, none⟩) (by simp)).trans (by go_simp)
  have hq1 : w1.cell? ⟨w.heap.size, 1, none⟩ = some (.int .i64 sn) := (hb1.cell (p := ⟨w.heap.size, 1, none⟩) (by simp)).trans (by go_simp)
  have hq2 : w1.cell? ⟨w.heap.size, 2, none⟩ = some (.slice Ac cs.length cc) := (hb1.cell (p := ⟨w.heap.size, 2, none⟩) (by simp)).trans (by go_simp)
  have hb2 : Below w.heap.size w w1 := by repeat (first | exact Below.refl _ _ | assumption | refine below_drewN ?_ _ | refine Below.drew ?_ | refine Below.alloc ?_ (Nat.le_refl _) _ | refine bal ?_ _ | refine bnext ?_ (by assumption))
  clear hb1 HC
  simp only [chkP]
  go_wp2_with fail
  refine (HM.out _ hb2).mono ?_
  rintro e w2 ⟨rfl, rfl⟩
  have Hb2 := Lib.hid hb2
  have Hq0 := Lib.hid hq0
  have Hq1 := Lib.hid hq1
  have Hq2 := Lib.hid hq2
  clear hb2 hq0 hq1 hq2 HM
  go_wp2_with fail
  obtain ⟨H, hH⟩ : ∃ H, w.heap.size = H := ⟨_, rfl⟩
  rw [hH] at Hq0 Hq1 Hq2 ⊢
  have HH := Lib.hid hH
  clear hH
  obtain ⟨m, hm⟩ : ∃ m, cs.length = m := ⟨_, rfl⟩
  have Hm := Lib.hid hm
  rw [hm] at hlt hm32 Hrl2 Hq2 ⊢
  clear hm
  go_loopw [8, 9] (fun v iv wr => ∃ j p : Nat, p ≤ ls.length ∧ iv = .int .i64 (p : Int) ∧ Hid (m + j = p) ∧ Hid (wr.ownsRow w2.heap.size 3 1 v j (zv ((resN cs sn ls).take j))) ∧ Hid (Below w2.heap.size w2 wr)) (fun _ iv _ => ls.length - (intOf iv).toNat)
  case atStart => exact ⟨0, m, by omega, rfl, rfl, World.ownsRow_nil w2 w2.heap.size _ 1, Below.refl _ _⟩
  case round =>
    obtain ⟨j, p, hj, rfl, Hp, Hv, Hb⟩ := hrel
    have hjp : j ≤ p := by have := Hp.out; omega
    by_cases hjj : p < ls.length
    · obtain ⟨b, o, rfl, hc⟩ := (Hrl.out.below (bnext Hb2.out Hb.out)) p (.int .i64 (ls.getD p 0)) (by rw [zv_get ls p hjj]; simp [List.getD_eq_getElem?_getD, List.getElem?_eq_getElem hjj])
      have hxb := okS_get Hsk.out p
      have htb := toldN_bd cs (ls.take p) sn Hcs.out (by rw [Hm.out]; exact hm32) (okS_take Hsk.out _)
      have hll : (ls.take p).length = p := by rw [List.length_take]; omega
      have HT : Hid (∀ W : World, Below w2.heap.size w2 W → Calls Tryd.prog 22 #[.agg #[.int .i64 pr, .int .i64 sn, .slice Ac m cc], .slice (some ⟨b, o, none⟩) p c] W fun e w' => e = .returned (.int .i64 (toldN cs sn (ls.take p))) ∧ Below W.heap.size W w') := by
        intro W hW
        have h := told_any pr sn hsn cs (ls.take p) Hcs.out (by rw [Hm.out]; exact hm32) (okS_take Hsk.out _) (by rw [Hm.out, hll, ← Hp.out]; omega) (by rw [hll]; omega) Ac (some ⟨b, o, none⟩) cc c (by rw [hll]; omega) hcap63 W (Hrc.out.below (bnext Hb2.out hW)) (by rw [zv_take]; exact (Hrl.out.below (bnext Hb2.out hW)).take _)
        rw [hll, Hm.out] at h
        exact h
      have Ht : Hid (zv ((resN cs sn ls).take (j + 1)) = zv ((resN cs sn ls).take j) ++ [.int .i64 (ls.getD p 0 - toldN cs sn (ls.take p))]) := by
        have h := resN_snoc cs sn ls j (by rw [Hm.out, Hp.out]; exact hjj)
        rw [Hm.out, Hp.out] at h
        exact h
      clear hll
      have HQ : Hid (∀ W : World, Below w2.heap.size w2 W → Below w2.heap.size w2 W ∧ W.cell? ⟨b, o + p, none⟩ = some (.int .i64 (ls.getD p 0)) ∧ W.cell? ⟨H, 0, none⟩ = some (.int .i64 pr) ∧ W.cell? ⟨H, 1, none⟩ = some (.int .i64 sn) ∧ W.cell? ⟨H, 2, none⟩ = some (.slice Ac m cc)) := by
        intro W hW
        obtain ⟨b', o', e, hcw⟩ := (Hrl.out.below (bnext Hb2.out hW)) p (.int .i64 (ls.getD p 0)) (by rw [zv_get ls p hjj]; simp [List.getD_eq_getElem?_getD, List.getElem?_eq_getElem hjj])
        injection e with e
        injection e with e1 e2
        subst e1 e2
        exact ⟨hW, hcw, (hW.cell (p := ⟨H, 0, none⟩) (cell_lt Hq0.out)).trans Hq0.out, (hW.cell (p := ⟨H, 1, none⟩) (cell_lt Hq1.out)).trans Hq1.out, (hW.cell (p := ⟨H, 2, none⟩) (cell_lt Hq2.out)).trans Hq2.out⟩
      generalize ls.getD p 0 = x at *
      generalize toldN cs sn (ls.take p) = y at *
      have hi1 : (p : Int) < ls.length := by omega
      have hi2 : (p : Int) ≤ c := by omega
      have hwx : IntKind.i64.wrap (x - y) = x - y := by rw [IntKind.wrap_i64]; omega
      go_wp2_with fail
      refine wp_region_headN (fun W' => Below w2.heap.size w2 W' ∧ W'.cell? ⟨b, o + p, none⟩ = some (.int .i64 x) ∧ W'.cell? ⟨H, 0, none⟩ = some (.int .i64 pr) ∧ W'.cell? ⟨H, 1, none⟩ = some (.int .i64 sn) ∧ W'.cell? ⟨H, 2, none⟩ = some (.slice Ac m cc)) 9 5 (by kernel_rfl) rfl (by kernel_rfl) (HQ.out wr.drew (Hb.out.drew)) ?_
      simp only [List.take_succ_cons, List.take_zero]
      refine' wpHead_op _ (by rfl) ?hv1 ?hrest1
      case hv1 => (intro w' hS'; (try dsimp only at hS'); go_simp; try with_reducible rfl)
      try simp only [Act.put, List.setIfInBounds_toArray, List.set_cons_zero, List.set_cons_succ]
      refine' wpHead_op _ (by rfl) ?hv2 ?hrest2
      case hv2 => (intro w' hS'; (try dsimp only at hS'); go_simp; try with_reducible rfl)
      try simp only [Act.put, List.setIfInBounds_toArray, List.set_cons_zero, List.set_cons_succ]
      refine' wpHead_op _ (by rfl) ?hv3 ?hrest3
      case hv3 => (intro w' hS'; (try dsimp only at hS'); go_simp; try with_reducible rfl)
      try simp only [Act.put, List.setIfInBounds_toArray, List.set_cons_zero, List.set_cons_succ]
      refine' wpHead_op _ (by rfl) ?hv4 ?hrest4
      case hv4 => (intro w' hS'; (try dsimp only at hS'); go_simp; try with_reducible rfl)
      try simp only [Act.put, List.setIfInBounds_toArray, List.set_cons_zero, List.set_cons_succ]
      refine' wpHead_op _ (by rfl) ?hv5 ?hrest5
      case hv5 => (intro w' hS'; (try dsimp only at hS'); go_simp; try with_reducible rfl)
      try simp only [Act.put, List.setIfInBounds_toArray, List.set_cons_zero, List.set_cons_succ]
      refine' wpHead_op _ (by rfl) ?hv6 ?hrest6
      case hv6 => (intro w' hS'; (try dsimp only at hS'); go_simp; try with_reducible rfl)
      try simp only [Act.put, List.setIfInBounds_toArray, List.set_cons_zero, List.set_cons_succ]
      refine' wpHead_op _ (by rfl) ?hv7 ?hrest7
      case hv7 => (intro w' hS'; (try dsimp only at hS'); go_simp; try with_reducible rfl)
      try simp only [Act.put, List.setIfInBounds_toArray, List.set_cons_zero, List.set_cons_succ]
      refine' wpHead_op _ (by rfl) ?hv8 ?hrest8
      case hv8 => (intro w' hS'; (try dsimp only at hS'); go_simp; try with_reducible rfl)
      try simp only [Act.put, List.setIfInBounds_toArray, List.set_cons_zero, List.set_cons_succ]
      refine' wpHead_op _ (by rfl) ?hv9 ?hrest9
      case hv9 => (intro w' hS'; (try dsimp only at hS'); go_simp; try with_reducible rfl)
      try simp only [Act.put, List.setIfInBounds_toArray, List.set_cons_zero, List.set_cons_succ]
      refine wpHead_nil ?_
      refine wpAnyH_next (i := 9) (by kernel_rfl) rfl (by rfl) (fun K hK => ?_)
      go_simp
      refine (HT.out wr.drew (Hb.out.drew)).mono ?_
      rintro e w3 ⟨rfl, hb3⟩
      have hb4 : Below w2.heap.size w2 w3 := bnext Hb.out.drew hb3
      have Hv3 := Lib.hid (ownsRow_below (w := wr.drew) Hv.out hb3)
      refine hK.out _ _ (HQ.out _ hb4) ?_
      clear hK K hb3 Hv
      try simp only [Act.put, List.setIfInBounds_toArray, List.set_cons_zero, List.set_cons_succ]
      refine wpAnyH_next (i := 10) (by kernel_rfl) rfl (by rfl) (fun K hK => ?_)
      go_simp
      refine hK.out _ _ (HQ.out _ hb4) ?_
      clear hK K
      try simp only [Act.put, List.setIfInBounds_toArray, List.set_cons_zero, List.set_cons_succ]
      refine wpAnyH_next (i := 11) (by kernel_rfl) rfl (by rfl) (fun K hK => ?_)
      go_simp
      refine hK.out _ _ (HQ.out _ (bal hb4 _)) ?_
      clear hK K
      try simp only [Act.put, List.setIfInBounds_toArray, List.set_cons_zero, List.set_cons_succ]
      refine wpAnyH_next (i := 12) (by kernel_rfl) rfl (by rfl) (fun K hK => ?_)
      refine wp_app1 (w0 := w2) (W := w3.alloc (.cells #[.int .i64 (x - y)] 3)) (H := w3.heap.size) _ _ 22 rfl Tryd.underlying22 info_int rfl (by decide) rfl (Hv3.out.alloc _) (Nat.le_refl _) (by have := hb4.size; simp; omega) (bal hb4 _) rfl (heap_alloc_new w3 _) rfl (one_int _ _) (by omega) (by unfold maxLen; omega) ?_
      intro v1 w6 own1 hb6 hs6
      have Hown1 := Lib.hid own1
      have Hb6 := Lib.hid hb6
      refine hK.out _ _ (HQ.out _ hb6) ?_
      clear hK K own1 Hv3 hb6 hb4
      try simp only [Act.put, List.setIfInBounds_toArray, List.set_cons_zero, List.set_cons_succ]
      refine wpAnyH_next (i := 13) (by kernel_rfl) rfl (by rfl) (fun K hK => ?_)
      go_simp
      refine hK.out _ _ (HQ.out _ Hb6.out) ?_
      clear hK K
      try simp only [Act.put, List.setIfInBounds_toArray, List.set_cons_zero, List.set_cons_succ]
      refine wpAnyH_doneN (by kernel_rfl) ?_
      go_wp2_with fail
      go_roundw
      case rel => exact ⟨j + 1, p + 1, by omega, by go_num, by show _ = _; rw [← Hp.out]; rfl, by rw [Ht.out]; exact Hown1, Hb6⟩
      case measure => simp [intOf] <;> omega
    · obtain rfl : p = ls.length := by omega
      have hjl : j = (resN cs sn ls).length := by rw [Hrl2.out]; have := Hp.out; omega
      subst hjl
      rw [List.take_length] at Hv
      have hbe := bnext Hb2.out Hb.out
      have hle := Hb2.out.size
      go_wp2_with fail
      go_ret2
      exact ⟨_, rfl, by rw [← HH.out]; exact ownsRow_less Hv.out hle, hbe⟩
end Go.Proofs.YtghnjgemjiekgaaDoor
