/-
  jetsamlaw11.Plain.
-/
import Derived.Test.YtikgpohoggpldaaMay
namespace Go.Proofs.Ytikgpohoggpldaa
open Go.RowKit

set_option maxHeartbeats 1000000 in
theorem Plain_any (p0 p1 p2 mn mx mf xf tt : Int) (s : Nat → Int) (w : World) :
    Calls Try.prog 17 #[.agg (ofV p0 p1 p2 mn mx mf xf tt s)] w fun e w' => e = .returned (.agg (ofV p0 p1 p2 mn mx mf xf tt s)) ∧ Below w.heap.size w w' := by
  obtain ⟨w3, hw3, hb3, hI, hR⟩ : ∃ w3, ((w.alloc (.cells (ofV p0 p1 p2 mn mx mf xf tt s) 34)).alloc (.cells (ofV 0 0 0 0 0 0 0 0 fun _ => 0) 46)) = w3 ∧
      Below w.heap.size w w3 ∧ InfAt w3 w.heap.size p0 p1 p2 mn mx mf xf tt s ∧ RfAt w3 (w.heap.size + 1) (fun _ => 0) (fun _ => 0) :=
    ⟨_, rfl, by repeat (first | exact Below.refl _ _ | assumption | refine below_drewN ?_ _ | refine Below.drew ?_ | refine Below.alloc ?_ (Nat.le_refl _) _ | refine bal ?_ _ | refine bnext ?_ (by assumption)), hrow_alloc (heap_alloc_last w _) _, heap_alloc2_new w _ _⟩
  have hj0 := hI.cell 0 (.int .i64 p0) rfl
  have hj1 := hI.cell 1 (.int .i64 p1) rfl
  have hj2 := hI.cell 2 (.int .i64 p2) rfl
  have hj3 := hI.cell 3 (.int .i64 mn) rfl
  have hj4 := hI.cell 4 (.int .i64 mx) rfl
  have hj5 := hI.cell 5 (.int .i64 mf) rfl
  have hj6 := hI.cell 6 (.int .i64 xf) rfl
  have hj7 := hI.cell 7 (.int .i64 tt) rfl
  have Hs := Lib.hid (InfAt.sum hI)
  have HR := Lib.hid hR
  have Hb := Lib.hid hb3
  clear hI hR hb3
  simp only [ofV] at hw3 ⊢
  go_enter Try.func17, Try.ntmps17
  go_upto_region 1 with fail
  try rw [hw3]
  clear hw3
  go_wp2_with (first | (refine wpList_load_mid rfl 24 _ rfl w.heap.size 8 rfl [.int .u8 (s 0), .int .u8 (s 1), .int .u8 (s 2), .int .u8 (s 3), .int .u8 (s 4), .int .u8 (s 5), .int .u8 (s 6), .int .u8 (s 7), .int .u8 (s 8), .int .u8 (s 9), .int .u8 (s 10), .int .u8 (s 11), .int .u8 (s 12), .int .u8 (s 13), .int .u8 (s 14), .int .u8 (s 15)] _ Hs.out Try.underlying24 rfl (by kernel_rfl) ?_) | (refine wpList_store_row (c := ofV 0 0 0 0 0 0 0 0 fun _ => 0) (c' := ofV p0 p1 p2 mn mx mf xf tt s) (t := 46) rfl 46 _ _ rfl (w.heap.size + 1) rfl rfl HR.out (by kernel_rfl) rfl (ofV_one _ _ _ _ _ _ _ _ _) ?_))
  refine bodyPost_ret (results_cell_row (cs := ofV p0 p1 p2 mn mx mf xf tt s) (t := 46) (fr := (0, 0)) (g := w.heap.size + 1) Try.results17 _ _ _ rfl (setRow_heap _ _ _ _ 46 (0, 0) HR.out) Try.underlying46 rfl (by kernel_rfl)) rfl ⟨rfl, Below.setRow Hb.out (by omega) _⟩
end Go.Proofs.Ytikgpohoggpldaa
