/-
  info.Of without pieces.
-/
import Derived.Test.YtikgpohoggpldaaInfOf
namespace Go.Proofs.Ytikgpohoggpldaa
open Go.RowKit

set_option maxHeartbeats 400000 in
theorem Of_nil (p0 p1 p2 : Int) (s : Nat → Int) (A : Option Addr) (c : Nat) (w : World) :
    Calls Try.prog 12 #[.agg #[.int .i64 p0, .int .i64 p1, .int .i64 p2], .agg #[.int .u8 (s 0), .int .u8 (s 1), .int .u8 (s 2), .int .u8 (s 3), .int .u8 (s 4), .int .u8 (s 5), .int .u8 (s 6), .int .u8 (s 7), .int .u8 (s 8), .int .u8 (s 9), .int .u8 (s 10), .int .u8 (s 11), .int .u8 (s 12), .int .u8 (s 13), .int .u8 (s 14), .int .u8 (s 15)], .slice A 0 c] w fun e w' => e = .returned (.agg (ofV p0 p1 p2 16 16 0 0 0 s)) ∧ Below w.heap.size w w' := by
  go_enter Try.func12, Try.ntmps12
  go_upto_region 1 with fail
  apply wp_region_lit
  go_step
  go_step
  go_step
  refine wpList_load_row rfl 24 _ rfl (w.heap.size + 1) rfl _ _ _ _ (heap3_mid _ _ _ _) Try.underlying24 rfl (by kernel_rfl) ?_
  go_step
  go_step
  go_step
  go_step
  go_step
  go_step
  refine wpList_store_new rfl 34 _ _ rfl _ rfl (by simp) rfl (by kernel_rfl) (by rfl) (ofV_one p0 p1 p2 16 16 0 0 0 s) ?_
  intro w3 hw3
  have hb3 : Below w.heap.size w w3 := by rw [← hw3]; repeat (first | exact Below.refl _ _ | assumption | refine below_drewN ?_ _ | refine Below.drew ?_ | refine Below.alloc ?_ (Nat.le_refl _) _ | refine bal ?_ _ | refine bnext ?_ (by assumption))
  have hI : InfAt w3 (w.heap.size + 1 + 1 + 1) p0 p1 p2 16 16 0 0 0 s := by
    rw [← hw3]
    refine InfAt.new ?_
    simp
  have hR : InfAt w3 (w.heap.size + 1 + 1) 0 0 0 0 0 0 0 0 fun _ => 0 := by
    rw [← hw3]
    exact hrow_alloc (InfAt.new (g := w.heap.size + 2) (p0 := 0) (p1 := 0) (p2 := 0) (a := 0) (b := 0) (c := 0) (d := 0) (e := 0) (s := fun _ => 0) (by simp)) _
  clear hw3
  have hRs : w.heap.size ≤ w.heap.size + 1 + 1 := by omega
  generalize w.heap.size + 1 + 1 + 1 = B at *
  generalize w.heap.size + 1 + 1 = R at *
  have HI := Lib.hid hI; clear hI
  have HR := Lib.hid hR; clear hR
  go_wp2_with (first | (refine wpList_load_row rfl 34 _ rfl B rfl 34 (ofV p0 p1 p2 16 16 0 0 0 s) (0, 0) _ HI.out Try.underlying34 rfl (by kernel_rfl) ?_) | (refine wpList_store_row (c := ofV 0 0 0 0 0 0 0 0 fun _ => 0) (t := 34) rfl 34 _ _ rfl R rfl rfl HR.out (by kernel_rfl) rfl (ofV_one _ _ _ _ _ _ _ _ _) ?_))
  exact bodyPost_ret (results_cell_row (cs := ofV p0 p1 p2 16 16 0 0 0 s) (t := 34) (fr := (0, 0)) (g := R) Try.results12 _ _ _ rfl (setRow_heap _ R _ _ 34 (0, 0) HR.out) Try.underlying34 rfl (by kernel_rfl)) rfl ⟨rfl, Below.setRow hb3 hRs _⟩
end Go.Proofs.Ytikgpohoggpldaa
