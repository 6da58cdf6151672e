/-
  jetsamref08: what codes tell.
-/
import Derived.Test.YtgohfbfdhdepnaaDoorMake08
import Derived.Test.YtgohfbfdhdepnaaDoorMono
namespace Go.Proofs.YtgohfbfdhdepnaaDoor
open Go.RowKit

def refBlk : List Int := [-1, 192, 576, 1152, 2304, 4608, 0, 0, 256, 512, 1024, 2048, 4096, 8192, 16384, 32768]
def HrAt (w : World) (B : Nat) (h : Hd) : Prop := w.heap[B]? = some (.cells h.cells 26 (0, 0))
theorem HrAt.below {w w' : World} {B : Nat} {h : Hd} (k : HrAt w B h) (hb : Below w.heap.size w w') : HrAt w' B h := (hb.block B (Array.getElem?_eq_some_iff.1 k).1).trans k
theorem HrAt.c {w : World} {B : Nat} {h : Hd} (k : HrAt w B h) (i : Nat) (v : Value) (e : h.cells[i]? = some v) : w.cell? ⟨B, i, none⟩ = some v := by rw [cell_of_row _ _ _ _ _ _ k]; exact e
theorem HrAt.set {w : World} {B : Nat} {h : Hd} (k : HrAt w B h) (i : Nat) (v : Value) (h' : Hd) (e : h.cells.setIfInBounds i v = h'.cells) : HrAt (w.setCell ⟨B, i, none⟩ v) B h' := by
  have := heap_setCell_same w B i _ _ v k
  rw [e] at this
  exact this

set_option maxRecDepth 100000 in
set_option maxHeartbeats 800000 in
theorem Block_any (c : Int) (w : World) :
    Calls Tryd.prog 19 #[.int .i64 c] w fun e w' => e = .returned (.int .i64 (ofT refBlk c)) ∧ Below w.heap.size w w' := by
  by_cases h1 : c < 0
  · have e : ofT refBlk c = -1 := if_pos (.inl h1)
    rw [e]
    clear e
    go_enter Tryd.func19, Tryd.ntmps19
    go_wp2_with fail
    go_ret
    exact ⟨rfl, by repeat (first | exact Below.refl _ _ | assumption | refine below_drewN ?_ _ | refine Below.drew ?_ | refine Below.alloc ?_ (Nat.le_refl _) _ | refine bal ?_ _ | refine bnext ?_ (by assumption))⟩
  by_cases h2 : c > 15
  · have e : ofT refBlk c = -1 := if_pos (.inr (by show (16 : Int) ≤ c; omega))
    rw [e]
    clear e
    go_enter Tryd.func19, Tryd.ntmps19
    go_wp2_with fail
    go_ret
    exact ⟨rfl, by repeat (first | exact Below.refl _ _ | assumption | refine below_drewN ?_ _ | refine Below.drew ?_ | refine Below.alloc ?_ (Nat.le_refl _) _ | refine bal ?_ _ | refine bnext ?_ (by assumption))⟩
  obtain ⟨i, rfl⟩ : ∃ i : Nat, c = i := ⟨c.toNat, by omega⟩
  have hi : i < 16 := by omega
  have hl : refBlk.length = 16 := rfl
  have e : ofT refBlk i = refBlk.getD i 0 := by rw [ofT, if_neg (by rw [hl]; omega), Int.toNat_natCast]
  have hc : (w.alloc (.cells (zv refBlk).toArray 3)).cell? ⟨w.heap.size, i, none⟩ = some (.int .i64 (refBlk.getD i 0)) := by
    rw [cell_of_row _ _ _ _ _ _ (heap_alloc_last w _)]
    rw [List.getElem?_toArray, zv_get refBlk i (by rw [hl]; exact hi), List.getD_eq_getElem?_getD, List.getElem?_eq_getElem (by rw [hl]; exact hi)]
    rfl
  rw [e]
  generalize refBlk.getD i 0 = z at *
  simp only [zv, refBlk, List.map_cons, List.map_nil] at hc
  clear e hl
  have hii : (i : Int) < 16 := by omega
  go_enter Tryd.func19, Tryd.ntmps19
  go_wp2_with fail
  go_ret
  exact ⟨rfl, by repeat (first | exact Below.refl _ _ | assumption | refine below_drewN ?_ _ | refine Below.drew ?_ | refine Below.alloc ?_ (Nat.le_refl _) _ | refine bal ?_ _ | refine bnext ?_ (by assumption))⟩

set_option maxRecDepth 100000 in
set_option maxHeartbeats 800000 in
theorem Rate_any (c : Int) (w : World) :
    Calls Tryd.prog 20 #[.int .i64 c] w fun e w' => e = .returned (.int .i64 (ofT ratL c)) ∧ Below w.heap.size w w' := by
  by_cases h1 : c < 0
  · have e : ofT ratL c = -1 := if_pos (.inl h1)
    rw [e]
    clear e
    go_enter Tryd.func20, Tryd.ntmps20
    go_wp2_with fail
    go_ret
    exact ⟨rfl, by repeat (first | exact Below.refl _ _ | assumption | refine below_drewN ?_ _ | refine Below.drew ?_ | refine Below.alloc ?_ (Nat.le_refl _) _ | refine bal ?_ _ | refine bnext ?_ (by assumption))⟩
  by_cases h2 : c > 15
  · have e : ofT ratL c = -1 := if_pos (.inr (by show (16 : Int) ≤ c; omega))
    rw [e]
    clear e
    go_enter Tryd.func20, Tryd.ntmps20
    go_wp2_with fail
    go_ret
    exact ⟨rfl, by repeat (first | exact Below.refl _ _ | assumption | refine below_drewN ?_ _ | refine Below.drew ?_ | refine Below.alloc ?_ (Nat.le_refl _) _ | refine bal ?_ _ | refine bnext ?_ (by assumption))⟩
  obtain ⟨i, rfl⟩ : ∃ i : Nat, c = i := ⟨c.toNat, by omega⟩
  have hi : i < 16 := by omega
  have hl : ratL.length = 16 := rfl
  have e : ofT ratL i = ratL.getD i 0 := by rw [ofT, if_neg (by rw [hl]; omega), Int.toNat_natCast]
  have hc : (w.alloc (.cells (zv ratL).toArray 3)).cell? ⟨w.heap.size, i, none⟩ = some (.int .i64 (ratL.getD i 0)) := by
    rw [cell_of_row _ _ _ _ _ _ (heap_alloc_last w _)]
    rw [List.getElem?_toArray, zv_get ratL i (by rw [hl]; exact hi), List.getD_eq_getElem?_getD, List.getElem?_eq_getElem (by rw [hl]; exact hi)]
    rfl
  rw [e]
  generalize ratL.getD i 0 = z at *
  simp only [zv, ratL, List.map_cons, List.map_nil] at hc
  clear e hl
  have hii : (i : Int) < 16 := by omega
  go_enter Tryd.func20, Tryd.ntmps20
  go_wp2_with fail
  go_ret
  exact ⟨rfl, by repeat (first | exact Below.refl _ _ | assumption | refine below_drewN ?_ _ | refine Below.drew ?_ | refine Below.alloc ?_ (Nat.le_refl _) _ | refine bal ?_ _ | refine bnext ?_ (by assumption))⟩

set_option maxRecDepth 100000 in
set_option maxHeartbeats 800000 in
theorem Depth_any (c : Int) (w : World) :
    Calls Tryd.prog 21 #[.int .i64 c] w fun e w' => e = .returned (.int .i64 (ofT depL c)) ∧ Below w.heap.size w w' := by
  by_cases h1 : c < 0
  · have e : ofT depL c = -1 := if_pos (.inl h1)
    rw [e]
    clear e
    go_enter Tryd.func21, Tryd.ntmps21
    go_wp2_with fail
    go_ret
    exact ⟨rfl, by repeat (first | exact Below.refl _ _ | assumption | refine below_drewN ?_ _ | refine Below.drew ?_ | refine Below.alloc ?_ (Nat.le_refl _) _ | refine bal ?_ _ | refine bnext ?_ (by assumption))⟩
  by_cases h2 : c > 7
  · have e : ofT depL c = -1 := if_pos (.inr (by show (8 : Int) ≤ c; omega))
    rw [e]
    clear e
    go_enter Tryd.func21, Tryd.ntmps21
    go_wp2_with fail
    go_ret
    exact ⟨rfl, by repeat (first | exact Below.refl _ _ | assumption | refine below_drewN ?_ _ | refine Below.drew ?_ | refine Below.alloc ?_ (Nat.le_refl _) _ | refine bal ?_ _ | refine bnext ?_ (by assumption))⟩
  obtain ⟨i, rfl⟩ : ∃ i : Nat, c = i := ⟨c.toNat, by omega⟩
  have hi : i < 8 := by omega
  have hl : depL.length = 8 := rfl
  have e : ofT depL i = depL.getD i 0 := by rw [ofT, if_neg (by rw [hl]; omega), Int.toNat_natCast]
  have hc : (w.alloc (.cells (zv depL).toArray 3)).cell? ⟨w.heap.size, i, none⟩ = some (.int .i64 (depL.getD i 0)) := by
    rw [cell_of_row _ _ _ _ _ _ (heap_alloc_last w _)]
    rw [List.getElem?_toArray, zv_get depL i (by rw [hl]; exact hi), List.getD_eq_getElem?_getD, List.getElem?_eq_getElem (by rw [hl]; exact hi)]
    rfl
  rw [e]
  generalize depL.getD i 0 = z at *
  simp only [zv, depL, List.map_cons, List.map_nil] at hc
  clear e hl
  have hii : (i : Int) < 8 := by omega
  go_enter Tryd.func21, Tryd.ntmps21
  go_wp2_with fail
  go_ret
  exact ⟨rfl, by repeat (first | exact Below.refl _ _ | assumption | refine below_drewN ?_ _ | refine Below.drew ?_ | refine Below.alloc ?_ (Nat.le_refl _) _ | refine bal ?_ _ | refine bnext ?_ (by assumption))⟩

theorem rmost_any (b : Bool) (w : World) :
    Calls Tryd.prog 22 #[.bool b] w fun e w' => e = .returned (.int .i64 (mostV b)) ∧ w' = w := by
  cases b
  · go_enter Tryd.func22, Tryd.ntmps22
    go_wp2_with fail
    go_ret
    exact ⟨rfl, rfl⟩
  · go_enter Tryd.func22, Tryd.ntmps22
    go_wp2_with fail
    go_ret
    exact ⟨rfl, rfl⟩
theorem Unit_any (c : Int) (w : World) :
    Calls Tryd.prog 23 #[.int .i64 c] w fun e w' => e = .returned (.int .i64 (unU c)) ∧ w' = w := by
  by_cases h1 : c = 12
  · subst h1
    go_enter Tryd.func23, Tryd.ntmps23
    go_wp2_with fail
    go_ret
    exact ⟨rfl, rfl⟩
  have e1 : (c == 12) = false := by rw [beq_eq_false_iff_ne]; exact h1
  by_cases h2 : c = 14
  · subst h2
    go_enter Tryd.func23, Tryd.ntmps23
    go_wp2_with fail
    go_ret
    exact ⟨rfl, rfl⟩
  have e2 : (c == 14) = false := by rw [beq_eq_false_iff_ne]; exact h2
  have e3 : unU c = 1 := by rw [unU, if_neg h1, if_neg h2]
  rw [e3]
  clear e3
  go_enter Tryd.func23, Tryd.ntmps23
  go_wp2_with fail
  go_ret
  exact ⟨rfl, rfl⟩
def topR (rc : Int) : Int := if rc = 12 then 255 else 65535
def rB (bc b : Int) : Bool := if bc = 7 then decide (1 ≤ b ∧ b ≤ 65535) else if bc = 6 then decide (1 ≤ b ∧ b ≤ 256) else decide (b = ofT refBlk bc)
def rR (rc r : Int) : Bool := if ofT ratL rc = -2 then decide (0 ≤ r ∧ r ≤ unU rc * topR rc ∧ r % unU rc = 0) else decide (r = ofT ratL rc)
def rBad (h : Hd) : Bool := decide (ofT refBlk h.bc < 0) || ofT ratL h.rc == -1 || decide (h.m < 0) || decide (h.m > 10) || decide (ofT depL h.dc < 0)
def rE (h : Hd) : Int := if rBad h then 13 else if (decide (h.n < 0) || decide (h.n ≥ mostV h.V)) then 10 else if (!rB h.bc h.b || !rR h.rc h.r || h.d != ofT depL h.dc) then 22 else 0
theorem rat_two (rc : Int) (h : ofT ratL rc = -2) : rc = 12 ∨ rc = 13 ∨ rc = 14 := by
  obtain ⟨h1, h2, h3⟩ := ofT_in (show ofT ratL rc ≠ -1 from by rw [h]; decide)
  have h2' : rc < 16 := h2
  rw [h3] at h
  have := rat_behind rc.toNat (by omega) h
  omega
end Go.Proofs.YtgohfbfdhdepnaaDoor
