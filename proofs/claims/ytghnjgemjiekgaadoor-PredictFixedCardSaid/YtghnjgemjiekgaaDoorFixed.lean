/-
  predict.Fixed: the coefficients of a fixed order, out of the table.
-/
import Derived.Test.YtghnjgemjiekgaaDoorClone06
import Derived.Test.YtghnjgemjiekgaaDoorRowLaws
namespace Go.Proofs.YtghnjgemjiekgaaDoor
open Go.RowKit

def fixL : List (List Int) := [[0, 0, 0, 0], [1, 0, 0, 0], [2, -1, 0, 0], [3, -3, 1, 0], [4, -6, 4, -1]]
def fixC (k : Nat) : List Int := (fixL.getD k []).take k
/-- The table lies in the world. -/
def FixAt (w : World) : Prop := ∀ i, i < 5 → ∀ j, j < 4 → w.cell? ⟨0, i * 4 + j, none⟩ = some (.int .i64 ((fixL.getD i []).getD j 0))
theorem FixAt.below {w w' : World} (h : FixAt w) (hb : Below w.heap.size w w') : FixAt w' := fun i hi j hj => (hb.cell (p := ⟨0, i * 4 + j, none⟩) (cell_lt (h i hi j hj))).trans (h i hi j hj)

set_option maxHeartbeats 400000 in
theorem Fixed_no (k : Int) (h : k < 0 ∨ 4 < k) (w : World) :
    Calls Tryd.prog 15 #[.int .i64 k] w fun e w' => e = .returned (.tuple #[.agg #[.int .i64 0, .int .i64 0, .slice none 0 0], .int .i64 10]) ∧ Below w.heap.size w w' := by
  by_cases h1 : k < 0
  · go_enter Tryd.func15, Tryd.ntmps15
    go_wp2_with fail
    exact bodyPost_ret (results_row_tmp Tryd.results15 _ _ _ rfl rfl (heap_alloc_last w _) Tryd.underlying24 rfl (by kernel_rfl)) rfl ⟨rfl, by repeat (first | exact Below.refl _ _ | assumption | refine below_drewN ?_ _ | refine Below.drew ?_ | refine Below.alloc ?_ (Nat.le_refl _) _ | refine bal ?_ _ | refine bnext ?_ (by assumption))⟩
  · have h2 : 4 < k := by omega
    go_enter Tryd.func15, Tryd.ntmps15
    go_wp2_with fail
    exact bodyPost_ret (results_row_tmp Tryd.results15 _ _ _ rfl rfl (heap_alloc_last w _) Tryd.underlying24 rfl (by kernel_rfl)) rfl ⟨rfl, by repeat (first | exact Below.refl _ _ | assumption | refine below_drewN ?_ _ | refine Below.drew ?_ | refine Below.alloc ?_ (Nat.le_refl _) _ | refine bal ?_ _ | refine bnext ?_ (by assumption))⟩
def FixedPost (k : Nat) (w : World) (e : Ending) (w' : World) : Prop := ∃ A c, e = .returned (.tuple #[.agg #[.int .i64 4, .int .i64 0, .slice A k c], .int .i64 0]) ∧ k ≤ c ∧ Rd w' A (zv (fixC k)) ∧ Below w.heap.size w w'
set_option maxHeartbeats 800000 in
theorem Fixed_0 (w : World) (hF : FixAt w) : Calls Tryd.prog 15 #[.int .i64 0] w (FixedPost 0 w) := by
  obtain ⟨w1, hw1, hb1, hR, F1⟩ : ∃ w1, w.alloc (.cells #[.int .i64 0, .int .i64 0, .slice none 0 0] 24) = w1 ∧ Below w.heap.size w w1 ∧ w1.heap[w.heap.size]? = some (.cells #[.int .i64 0, .int .i64 0, .slice none 0 0] 24 (0, 0)) ∧ FixAt w1 :=
    ⟨_, rfl, by repeat (first | exact Below.refl _ _ | assumption | refine below_drewN ?_ _ | refine Below.drew ?_ | refine Below.alloc ?_ (Nat.le_refl _) _ | refine bal ?_ _ | refine bnext ?_ (by assumption)), heap_alloc_last w _, hF.below (by repeat (first | exact Below.refl _ _ | assumption | refine below_drewN ?_ _ | refine Below.drew ?_ | refine Below.alloc ?_ (Nat.le_refl _) _ | refine bal ?_ _ | refine bnext ?_ (by assumption)))⟩
  have hc0 : w1.cell? ⟨0, 0, none⟩ = some (.int .i64 0) := F1 0 (by omega) 0 (by omega)
  have hc1 : w1.cell? ⟨0, 0 + 1, none⟩ = some (.int .i64 0) := F1 0 (by omega) 1 (by omega)
  have hc2 : w1.cell? ⟨0, 0 + 2, none⟩ = some (.int .i64 0) := F1 0 (by omega) 2 (by omega)
  have hc3 : w1.cell? ⟨0, 0 + 3, none⟩ = some (.int .i64 0) := F1 0 (by omega) 3 (by omega)
  simp only [Nat.reduceAdd] at hc0 hc1 hc2 hc3
  have HR := Lib.hid hR
  have Hb1 := Lib.hid hb1
  clear hF F1 hR hb1
  go_enter Tryd.func15, Tryd.ntmps15
  go_upto_region 3 with fail
  try rw [hw1]
  clear hw1
  have hRd : Hid (Rd (w1.alloc (.cells #[.int .i64 0, .int .i64 0, .int .i64 0, .int .i64 0] 49)) (some ⟨w1.heap.size, 0, none⟩) (zv (fixC 0))) := by
    have h := (Rd.new w1 #[.int .i64 0, .int .i64 0, .int .i64 0, .int .i64 0] 49).take 0
    exact h
  go_wp2_with fail
  refine (clone_some (zv (fixC 0)) 0 rfl (zv_one _) _ 4 _ hRd.out (by decide)).mono ?_
  rintro e w3 ⟨v, rfl, Hown, hb3⟩
  obtain ⟨A, c, rfl, hcc, hrd, -⟩ := own_nilcap Hown.out
  have HAb : Hid (∀ b o, A = some ⟨b, o, none⟩ → w.heap.size < b) := by
    intro b o e
    have h1 := (Hown.out.lt b (by subst e; rfl)).1
    have h2 : w.heap.size < w1.heap.size := (Array.getElem?_eq_some_iff.1 HR.out).1
    simp at h1
    omega
  have hb31 : Below w1.heap.size w1 w3 := bnext (by repeat (first | exact Below.refl _ _ | assumption | refine below_drewN ?_ _ | refine Below.drew ?_ | refine Below.alloc ?_ (Nat.le_refl _) _ | refine bal ?_ _ | refine bnext ?_ (by assumption))) hb3
  have HR3 := Lib.hid (hrow_below HR.out hb31)
  have hb4 := bnext Hb1.out hb31
  have Hrd := Lib.hid hrd
  clear hrd Hown hRd HR hb3 hc0 hc1 hc2 hc3
  obtain ⟨R, hRe⟩ : ∃ R, w.heap.size = R := ⟨_, rfl⟩
  rw [hRe] at HR3 ⊢
  have HRe := Lib.hid hRe
  clear hRe
  have Hrd2 : Hid (Rd (w3.setRow R #[.int .i64 4, .int .i64 0, .slice A 0 c]) A (zv (fixC 0))) := by
    intro j u hu
    obtain ⟨b, o, rfl, hcell⟩ := Hrd.out j u hu
    refine ⟨b, o, rfl, ?_⟩
    by_cases hbR : b = R
    · subst hbR
      have := HAb.out b o rfl
      have := HRe.out
      omega
    · rw [World.cell?_of_block (setRow_other _ _ _ _ hbR)]; exact hcell
  go_wp2_with (refine wpList_store_row (c := #[.int .i64 0, .int .i64 0, .slice none 0 0]) (c' := #[.int .i64 4, .int .i64 0, .slice A 0 c]) (t := 24) rfl 24 _ _ rfl R rfl rfl HR3.out (by kernel_rfl) rfl (by simp [Value.oneCell']) ?_)
  exact bodyPost_ret (results_row_tmp Tryd.results15 _ _ _ rfl rfl (setRow_heap _ R _ _ 24 (0, 0) HR3.out) Tryd.underlying24 rfl (by kernel_rfl)) rfl ⟨A, c, rfl, hcc, Hrd2.out, Below.setRow hb4 (by rw [HRe.out]; exact Nat.le_refl _) _⟩
set_option maxHeartbeats 800000 in
theorem Fixed_1 (w : World) (hF : FixAt w) : Calls Tryd.prog 15 #[.int .i64 1] w (FixedPost 1 w) := by
  obtain ⟨w1, hw1, hb1, hR, F1⟩ : ∃ w1, w.alloc (.cells #[.int .i64 0, .int .i64 0, .slice none 0 0] 24) = w1 ∧ Below w.heap.size w w1 ∧ w1.heap[w.heap.size]? = some (.cells #[.int .i64 0, .int .i64 0, .slice none 0 0] 24 (0, 0)) ∧ FixAt w1 :=
    ⟨_, rfl, by repeat (first | exact Below.refl _ _ | assumption | refine below_drewN ?_ _ | refine Below.drew ?_ | refine Below.alloc ?_ (Nat.le_refl _) _ | refine bal ?_ _ | refine bnext ?_ (by assumption)), heap_alloc_last w _, hF.below (by repeat (first | exact Below.refl _ _ | assumption | refine below_drewN ?_ _ | refine Below.drew ?_ | refine Below.alloc ?_ (Nat.le_refl _) _ | refine bal ?_ _ | refine bnext ?_ (by assumption)))⟩
  have hc0 : w1.cell? ⟨0, 4, none⟩ = some (.int .i64 1) := F1 1 (by omega) 0 (by omega)
  have hc1 : w1.cell? ⟨0, 4 + 1, none⟩ = some (.int .i64 0) := F1 1 (by omega) 1 (by omega)
  have hc2 : w1.cell? ⟨0, 4 + 2, none⟩ = some (.int .i64 0) := F1 1 (by omega) 2 (by omega)
  have hc3 : w1.cell? ⟨0, 4 + 3, none⟩ = some (.int .i64 0) := F1 1 (by omega) 3 (by omega)
  simp only [Nat.reduceAdd] at hc0 hc1 hc2 hc3
  have HR := Lib.hid hR
  have Hb1 := Lib.hid hb1
  clear hF F1 hR hb1
  go_enter Tryd.func15, Tryd.ntmps15
  go_upto_region 3 with fail
  try rw [hw1]
  clear hw1
  have hRd : Hid (Rd (w1.alloc (.cells #[.int .i64 1, .int .i64 0, .int .i64 0, .int .i64 0] 49)) (some ⟨w1.heap.size, 0, none⟩) (zv (fixC 1))) := by
    have h := (Rd.new w1 #[.int .i64 1, .int .i64 0, .int .i64 0, .int .i64 0] 49).take 1
    exact h
  go_wp2_with fail
  refine (clone_some (zv (fixC 1)) 1 rfl (zv_one _) _ 4 _ hRd.out (by decide)).mono ?_
  rintro e w3 ⟨v, rfl, Hown, hb3⟩
  obtain ⟨A, c, rfl, hcc, hrd, -⟩ := own_nilcap Hown.out
  have HAb : Hid (∀ b o, A = some ⟨b, o, none⟩ → w.heap.size < b) := by
    intro b o e
    have h1 := (Hown.out.lt b (by subst e; rfl)).1
    have h2 : w.heap.size < w1.heap.size := (Array.getElem?_eq_some_iff.1 HR.out).1
    simp at h1
    omega
  have hb31 : Below w1.heap.size w1 w3 := bnext (by repeat (first | exact Below.refl _ _ | assumption | refine below_drewN ?_ _ | refine Below.drew ?_ | refine Below.alloc ?_ (Nat.le_refl _) _ | refine bal ?_ _ | refine bnext ?_ (by assumption))) hb3
  have HR3 := Lib.hid (hrow_below HR.out hb31)
  have hb4 := bnext Hb1.out hb31
  have Hrd := Lib.hid hrd
  clear hrd Hown hRd HR hb3 hc0 hc1 hc2 hc3
  obtain ⟨R, hRe⟩ : ∃ R, w.heap.size = R := ⟨_, rfl⟩
  rw [hRe] at HR3 ⊢
  have HRe := Lib.hid hRe
  clear hRe
  have Hrd2 : Hid (Rd (w3.setRow R #[.int .i64 4, .int .i64 0, .slice A 1 c]) A (zv (fixC 1))) := by
    intro j u hu
    obtain ⟨b, o, rfl, hcell⟩ := Hrd.out j u hu
    refine ⟨b, o, rfl, ?_⟩
    by_cases hbR : b = R
    · subst hbR
      have := HAb.out b o rfl
      have := HRe.out
      omega
    · rw [World.cell?_of_block (setRow_other _ _ _ _ hbR)]; exact hcell
  go_wp2_with (refine wpList_store_row (c := #[.int .i64 0, .int .i64 0, .slice none 0 0]) (c' := #[.int .i64 4, .int .i64 0, .slice A 1 c]) (t := 24) rfl 24 _ _ rfl R rfl rfl HR3.out (by kernel_rfl) rfl (by simp [Value.oneCell']) ?_)
  exact bodyPost_ret (results_row_tmp Tryd.results15 _ _ _ rfl rfl (setRow_heap _ R _ _ 24 (0, 0) HR3.out) Tryd.underlying24 rfl (by kernel_rfl)) rfl ⟨A, c, rfl, hcc, Hrd2.out, Below.setRow hb4 (by rw [HRe.out]; exact Nat.le_refl _) _⟩
set_option maxHeartbeats 800000 in
theorem Fixed_2 (w : World) (hF : FixAt w) : Calls Tryd.prog 15 #[.int .i64 2] w (FixedPost 2 w) := by
  obtain ⟨w1, hw1, hb1, hR, F1⟩ : ∃ w1, w.alloc (.cells #[.int .i64 0, .int .i64 0, .slice none 0 0] 24) = w1 ∧ Below w.heap.size w w1 ∧ w1.heap[w.heap.size]? = some (.cells #[.int .i64 0, .int .i64 0, .slice none 0 0] 24 (0, 0)) ∧ FixAt w1 :=
    ⟨_, rfl, by repeat (first | exact Below.refl _ _ | assumption | refine below_drewN ?_ _ | refine Below.drew ?_ | refine Below.alloc ?_ (Nat.le_refl _) _ | refine bal ?_ _ | refine bnext ?_ (by assumption)), heap_alloc_last w _, hF.below (by repeat (first | exact Below.refl _ _ | assumption | refine below_drewN ?_ _ | refine Below.drew ?_ | refine Below.alloc ?_ (Nat.le_refl _) _ | refine bal ?_ _ | refine bnext ?_ (by assumption)))⟩
  have hc0 : w1.cell? ⟨0, 8, none⟩ = some (.int .i64 2) := F1 2 (by omega) 0 (by omega)
  have hc1 : w1.cell? ⟨0, 8 + 1, none⟩ = some (.int .i64 (-1)) := F1 2 (by omega) 1 (by omega)
  have hc2 : w1.cell? ⟨0, 8 + 2, none⟩ = some (.int .i64 0) := F1 2 (by omega) 2 (by omega)
  have hc3 : w1.cell? ⟨0, 8 + 3, none⟩ = some (.int .i64 0) := F1 2 (by omega) 3 (by omega)
  simp only [Nat.reduceAdd] at hc0 hc1 hc2 hc3
  have HR := Lib.hid hR
  have Hb1 := Lib.hid hb1
  clear hF F1 hR hb1
  go_enter Tryd.func15, Tryd.ntmps15
  go_upto_region 3 with fail
  try rw [hw1]
  clear hw1
  have hRd : Hid (Rd (w1.alloc (.cells #[.int .i64 2, .int .i64 (-1), .int .i64 0, .int .i64 0] 49)) (some ⟨w1.heap.size, 0, none⟩) (zv (fixC 2))) := by
    have h := (Rd.new w1 #[.int .i64 2, .int .i64 (-1), .int .i64 0, .int .i64 0] 49).take 2
    exact h
  go_wp2_with fail
  refine (clone_some (zv (fixC 2)) 2 rfl (zv_one _) _ 4 _ hRd.out (by decide)).mono ?_
  rintro e w3 ⟨v, rfl, Hown, hb3⟩
  obtain ⟨A, c, rfl, hcc, hrd, -⟩ := own_nilcap Hown.out
  have HAb : Hid (∀ b o, A = some ⟨b, o, none⟩ → w.heap.size < b) := by
    intro b o e
    have h1 := (Hown.out.lt b (by subst e; rfl)).1
    have h2 : w.heap.size < w1.heap.size := (Array.getElem?_eq_some_iff.1 HR.out).1
    simp at h1
    omega
  have hb31 : Below w1.heap.size w1 w3 := bnext (by repeat (first | exact Below.refl _ _ | assumption | refine below_drewN ?_ _ | refine Below.drew ?_ | refine Below.alloc ?_ (Nat.le_refl _) _ | refine bal ?_ _ | refine bnext ?_ (by assumption))) hb3
  have HR3 := Lib.hid (hrow_below HR.out hb31)
  have hb4 := bnext Hb1.out hb31
  have Hrd := Lib.hid hrd
  clear hrd Hown hRd HR hb3 hc0 hc1 hc2 hc3
  obtain ⟨R, hRe⟩ : ∃ R, w.heap.size = R := ⟨_, rfl⟩
  rw [hRe] at HR3 ⊢
  have HRe := Lib.hid hRe
  clear hRe
  have Hrd2 : Hid (Rd (w3.setRow R #[.int .i64 4, .int .i64 0, .slice A 2 c]) A (zv (fixC 2))) := by
    intro j u hu
    obtain ⟨b, o, rfl, hcell⟩ := Hrd.out j u hu
    refine ⟨b, o, rfl, ?_⟩
    by_cases hbR : b = R
    · subst hbR
      have := HAb.out b o rfl
      have := HRe.out
      omega
    · rw [World.cell?_of_block (setRow_other _ _ _ _ hbR)]; exact hcell
  go_wp2_with (refine wpList_store_row (c := #[.int .i64 0, .int .i64 0, .slice none 0 0]) (c' := #[.int .i64 4, .int .i64 0, .slice A 2 c]) (t := 24) rfl 24 _ _ rfl R rfl rfl HR3.out (by kernel_rfl) rfl (by simp [Value.oneCell']) ?_)
  exact bodyPost_ret (results_row_tmp Tryd.results15 _ _ _ rfl rfl (setRow_heap _ R _ _ 24 (0, 0) HR3.out) Tryd.underlying24 rfl (by kernel_rfl)) rfl ⟨A, c, rfl, hcc, Hrd2.out, Below.setRow hb4 (by rw [HRe.out]; exact Nat.le_refl _) _⟩
set_option maxHeartbeats 800000 in
theorem Fixed_3 (w : World) (hF : FixAt w) : Calls Tryd.prog 15 #[.int .i64 3] w (FixedPost 3 w) := by
  obtain ⟨w1, hw1, hb1, hR, F1⟩ : ∃ w1, w.alloc (.cells #[.int .i64 0, .int .i64 0, .slice none 0 0] 24) = w1 ∧ Below w.heap.size w w1 ∧ w1.heap[w.heap.size]? = some (.cells #[.int .i64 0, .int .i64 0, .slice none 0 0] 24 (0, 0)) ∧ FixAt w1 :=
    ⟨_, rfl, by repeat (first | exact Below.refl _ _ | assumption | refine below_drewN ?_ _ | refine Below.drew ?_ | refine Below.alloc ?_ (Nat.le_refl _) _ | refine bal ?_ _ | refine bnext ?_ (by assumption)), heap_alloc_last w _, hF.below (by repeat (first | exact Below.refl _ _ | assumption | refine below_drewN ?_ _ | refine Below.drew ?_ | refine Below.alloc ?_ (Nat.le_refl _) _ | refine bal ?_ _ | refine bnext ?_ (by assumption)))⟩
  have hc0 : w1.cell? ⟨0, 12, none⟩ = some (.int .i64 3) := F1 3 (by omega) 0 (by omega)
  have hc1 : w1.cell? ⟨0, 12 + 1, none⟩ = some (.int .i64 (-3)) := F1 3 (by omega) 1 (by omega)
  have hc2 : w1.cell? ⟨0, 12 + 2, none⟩ = some (.int .i64 1) := F1 3 (by omega) 2 (by omega)
  have hc3 : w1.cell? ⟨0, 12 + 3, none⟩ = some (.int .i64 0) := F1 3 (by omega) 3 (by omega)
  simp only [Nat.reduceAdd] at hc0 hc1 hc2 hc3
  have HR := Lib.hid hR
  have Hb1 := Lib.hid hb1
  clear hF F1 hR hb1
  go_enter Tryd.func15, Tryd.ntmps15
  go_upto_region 3 with fail
  try rw [hw1]
  clear hw1
  have hRd : Hid (Rd (w1.alloc (.cells #[.int .i64 3, .int .i64 (-3), .int .i64 1, .int .i64 0] 49)) (some ⟨w1.heap.size, 0, none⟩) (zv (fixC 3))) := by
    have h := (Rd.new w1 #[.int .i64 3, .int .i64 (-3), .int .i64 1, .int .i64 0] 49).take 3
    exact h
  go_wp2_with fail
  refine (clone_some (zv (fixC 3)) 3 rfl (zv_one _) _ 4 _ hRd.out (by decide)).mono ?_
  rintro e w3 ⟨v, rfl, Hown, hb3⟩
  obtain ⟨A, c, rfl, hcc, hrd, -⟩ := own_nilcap Hown.out
  have HAb : Hid (∀ b o, A = some ⟨b, o, none⟩ → w.heap.size < b) := by
    intro b o e
    have h1 := (Hown.out.lt b (by subst e; rfl)).1
    have h2 : w.heap.size < w1.heap.size := (Array.getElem?_eq_some_iff.1 HR.out).1
    simp at h1
    omega
  have hb31 : Below w1.heap.size w1 w3 := bnext (by repeat (first | exact Below.refl _ _ | assumption | refine below_drewN ?_ _ | refine Below.drew ?_ | refine Below.alloc ?_ (Nat.le_refl _) _ | refine bal ?_ _ | refine bnext ?_ (by assumption))) hb3
  have HR3 := Lib.hid (hrow_below HR.out hb31)
  have hb4 := bnext Hb1.out hb31
  have Hrd := Lib.hid hrd
  clear hrd Hown hRd HR hb3 hc0 hc1 hc2 hc3
  obtain ⟨R, hRe⟩ : ∃ R, w.heap.size = R := ⟨_, rfl⟩
  rw [hRe] at HR3 ⊢
  have HRe := Lib.hid hRe
  clear hRe
  have Hrd2 : Hid (Rd (w3.setRow R #[.int .i64 4, .int .i64 0, .slice A 3 c]) A (zv (fixC 3))) := by
    intro j u hu
    obtain ⟨b, o, rfl, hcell⟩ := Hrd.out j u hu
    refine ⟨b, o, rfl, ?_⟩
    by_cases hbR : b = R
    · subst hbR
      have := HAb.out b o rfl
      have := HRe.out
      omega
    · rw [World.cell?_of_block (setRow_other _ _ _ _ hbR)]; exact hcell
  go_wp2_with (refine wpList_store_row (c := #[.int .i64 0, .int .i64 0, .slice none 0 0]) (c' := #[.int .i64 4, .int .i64 0, .slice A 3 c]) (t := 24) rfl 24 _ _ rfl R rfl rfl HR3.out (by kernel_rfl) rfl (by simp [Value.oneCell']) ?_)
  exact bodyPost_ret (results_row_tmp Tryd.results15 _ _ _ rfl rfl (setRow_heap _ R _ _ 24 (0, 0) HR3.out) Tryd.underlying24 rfl (by kernel_rfl)) rfl ⟨A, c, rfl, hcc, Hrd2.out, Below.setRow hb4 (by rw [HRe.out]; exact Nat.le_refl _) _⟩
set_option maxHeartbeats 800000 in
theorem Fixed_4 (w : World) (hF : FixAt w) : Calls Tryd.prog 15 #[.int .i64 4] w (FixedPost 4 w) := by
  obtain ⟨w1, hw1, hb1, hR, F1⟩ : ∃ w1, w.alloc (.cells #[.int .i64 0, .int .i64 0, .slice none 0 0] 24) = w1 ∧ Below w.heap.size w w1 ∧ w1.heap[w.heap.size]? = some (.cells #[.int .i64 0, .int .i64 0, .slice none 0 0] 24 (0, 0)) ∧ FixAt w1 :=
    ⟨_, rfl, by repeat (first | exact Below.refl _ _ | assumption | refine below_drewN ?_ _ | refine Below.drew ?_ | refine Below.alloc ?_ (Nat.le_refl _) _ | refine bal ?_ _ | refine bnext ?_ (by assumption)), heap_alloc_last w _, hF.below (by repeat (first | exact Below.refl _ _ | assumption | refine below_drewN ?_ _ | refine Below.drew ?_ | refine Below.alloc ?_ (Nat.le_refl _) _ | refine bal ?_ _ | refine bnext ?_ (by assumption)))⟩
  have hc0 : w1.cell? ⟨0, 16, none⟩ = some (.int .i64 4) := F1 4 (by omega) 0 (by omega)
  have hc1 : w1.cell? ⟨0, 16 + 1, none⟩ = some (.int .i64 (-6)) := F1 4 (by omega) 1 (by omega)
  have hc2 : w1.cell? ⟨0, 16 + 2, none⟩ = some (.int .i64 4) := F1 4 (by omega) 2 (by omega)
  have hc3 : w1.cell? ⟨0, 16 + 3, none⟩ = some (.int .i64 (-1)) := F1 4 (by omega) 3 (by omega)
  simp only [Nat.reduceAdd] at hc0 hc1 hc2 hc3
  have HR := Lib.hid hR
  have Hb1 := Lib.hid hb1
  clear hF F1 hR hb1
  go_enter Tryd.func15, Tryd.ntmps15
  go_upto_region 3 with fail
  try rw [hw1]
  clear hw1
  have hRd : Hid (Rd (w1.alloc (.cells #[.int .i64 4, .int .i64 (-6), .int .i64 4, .int .i64 (-1)] 49)) (some ⟨w1.heap.size, 0, none⟩) (zv (fixC 4))) := by
    have h := (Rd.new w1 #[.int .i64 4, .int .i64 (-6), .int .i64 4, .int .i64 (-1)] 49).take 4
    exact h
  go_wp2_with fail
  refine (clone_some (zv (fixC 4)) 4 rfl (zv_one _) _ 4 _ hRd.out (by decide)).mono ?_
  rintro e w3 ⟨v, rfl, Hown, hb3⟩
  obtain ⟨A, c, rfl, hcc, hrd, -⟩ := own_nilcap Hown.out
  have HAb : Hid (∀ b o, A = some ⟨b, o, none⟩ → w.heap.size < b) := by
    intro b o e
    have h1 := (Hown.out.lt b (by subst e; rfl)).1
    have h2 : w.heap.size < w1.heap.size := (Array.getElem?_eq_some_iff.1 HR.out).1
    simp at h1
    omega
  have hb31 : Below w1.heap.size w1 w3 := bnext (by repeat (first | exact Below.refl _ _ | assumption | refine below_drewN ?_ _ | refine Below.drew ?_ | refine Below.alloc ?_ (Nat.le_refl _) _ | refine bal ?_ _ | refine bnext ?_ (by assumption))) hb3
  have HR3 := Lib.hid (hrow_below HR.out hb31)
  have hb4 := bnext Hb1.out hb31
  have Hrd := Lib.hid hrd
  clear hrd Hown hRd HR hb3 hc0 hc1 hc2 hc3
  obtain ⟨R, hRe⟩ : ∃ R, w.heap.size = R := ⟨_, rfl⟩
  rw [hRe] at HR3 ⊢
  have HRe := Lib.hid hRe
  clear hRe
  have Hrd2 : Hid (Rd (w3.setRow R #[.int .i64 4, .int .i64 0, .slice A 4 c]) A (zv (fixC 4))) := by
    intro j u hu
    obtain ⟨b, o, rfl, hcell⟩ := Hrd.out j u hu
    refine ⟨b, o, rfl, ?_⟩
    by_cases hbR : b = R
    · subst hbR
      have := HAb.out b o rfl
      have := HRe.out
      omega
    · rw [World.cell?_of_block (setRow_other _ _ _ _ hbR)]; exact hcell
  go_wp2_with (refine wpList_store_row (c := #[.int .i64 0, .int .i64 0, .slice none 0 0]) (c' := #[.int .i64 4, .int .i64 0, .slice A 4 c]) (t := 24) rfl 24 _ _ rfl R rfl rfl HR3.out (by kernel_rfl) rfl (by simp [Value.oneCell']) ?_)
  exact bodyPost_ret (results_row_tmp Tryd.results15 _ _ _ rfl rfl (setRow_heap _ R _ _ 24 (0, 0) HR3.out) Tryd.underlying24 rfl (by kernel_rfl)) rfl ⟨A, c, rfl, hcc, Hrd2.out, Below.setRow hb4 (by rw [HRe.out]; exact Nat.le_refl _) _⟩
theorem Fixed_ok (k : Nat) (hk : k < 5) (w : World) (hF : FixAt w) : Calls Tryd.prog 15 #[.int .i64 k] w (FixedPost k w) := by
  match k, hk with
  | 0, _ => exact Fixed_0 w hF
  | 1, _ => exact Fixed_1 w hF
  | 2, _ => exact Fixed_2 w hF
  | 3, _ => exact Fixed_3 w hF
  | 4, _ => exact Fixed_4 w hF
  | k + 5, h => omega
end Go.Proofs.YtghnjgemjiekgaaDoor
