/-
  jetsamlaw01.BitsNil: its walk.
-/
import Derived.Test.YtfncmgojeaeihaaNil01
namespace Go.Proofs.Ytfncmgojeaeihaa
open Go.RowKit

set_option maxRecDepth 100000 in
set_option maxHeartbeats 2000000 in
theorem bitsNil_walk (a n v : Int) (w : World) :
    Calls Try.prog 8 #[.agg #[.int .i64 a, .int .i64 n, .int .i64 v]] w fun e w' => e = .returned (.bool true) ∧ Below w.heap.size w w' := by
  obtain ⟨w1, hw1, hb1, hR⟩ : ∃ w1, w.alloc (.cells #[.int .i64 a, .int .i64 n, .int .i64 v] 47) = w1 ∧ Below w.heap.size w w1 ∧ w1.heap[w.heap.size]? = some (.cells #[.int .i64 a, .int .i64 n, .int .i64 v] 47 (0, 0)) :=
    ⟨_, rfl, by repeat (first | exact Below.refl _ _ | assumption | refine below_drewN ?_ _ | refine Below.drew ?_ | refine Below.alloc ?_ (Nat.le_refl _) _ | refine bal ?_ _ | refine bnext ?_ (by assumption)), heap_alloc_last w _⟩
  have h1 : w1.cell? ⟨w.heap.size, 1, none⟩ = some (.int .i64 n) := cell_of_row w1 w.heap.size 1 _ _ _ hR
  have h2 : w1.cell? ⟨w.heap.size, 2, none⟩ = some (.int .i64 v) := cell_of_row w1 w.heap.size 2 _ _ _ hR
  have hR2 := Lib.hid hR
  clear hR
  go_enter Try.func8, Try.ntmps8
  go_upto_region 1 with fail
  try rw [hw1]
  clear hw1
  go_wp2_with fail
  refine (TakeN_any n _).mono ?_
  rintro e w2 ⟨rfl, rfl⟩
  go_wp2_with fail
  refine (SignedN_any n _).mono ?_
  rintro e w3 ⟨rfl, rfl⟩
  go_wp2_with fail
  refine (UnaryN_any _).mono ?_
  rintro e w4 ⟨rfl, rfl⟩
  go_wp2_with fail
  refine (AlignN_any _).mono ?_
  rintro e w5 ⟨rfl, rfl⟩
  have HA := Lib.hid (AppendN_any (w5.heap.size + 1) w5.heap.size 1 ((w5.alloc (.cells #[.int .u8 1] 5)).alloc (.cells #[.slice (some ⟨w5.heap.size, 0, none⟩) 1 1] 22)) (by go_simp) (by go_simp))
  go_wp2_with fail
  refine HA.out.mono ?_
  rintro e w6 ⟨⟨q, rfl⟩, hw6⟩
  have hb6 : Below w.heap.size w w6 := by rw [hw6]; exact bal (bal hb1 _) _
  have hR6 := hrow_alloc (hrow_alloc hR2.out (.cells #[.int .u8 1] 5)) (.cells #[.slice (some ⟨w5.heap.size, 0, none⟩) 1 1] 22)
  rw [← hw6] at hR6
  have g1 : w6.cell? ⟨w.heap.size, 1, none⟩ = some (.int .i64 n) := cell_of_row w6 w.heap.size 1 _ _ _ hR6
  have g2 : w6.cell? ⟨w.heap.size, 2, none⟩ = some (.int .i64 v) := cell_of_row w6 w.heap.size 2 _ _ _ hR6
  clear HA hw6 h1 h2 hR6 hR2 hb1
  go_wp2_with fail
  refine (SeekN_any n _).mono ?_
  rintro e w7 ⟨rfl, rfl⟩
  go_wp2_with fail
  refine (AtN_any _).mono ?_
  rintro e w8 ⟨rfl, rfl⟩
  go_wp2_with fail
  refine (LeftN_any _).mono ?_
  rintro e w9 ⟨rfl, rfl⟩
  go_wp2_with fail
  refine (PutN_any n v _).mono ?_
  rintro e w10 ⟨rfl, rfl⟩
  go_wp2_with fail
  refine (SignedWN_any n v _).mono ?_
  rintro e w11 ⟨rfl, rfl⟩
  go_wp2_with fail
  refine (UnaryWN_any v _).mono ?_
  rintro e w12 ⟨rfl, rfl⟩
  go_wp2_with fail
  refine (AlignWN_any _).mono ?_
  rintro e w13 ⟨rfl, rfl⟩
  go_wp2_with fail
  refine (LenN_any _).mono ?_
  rintro e w14 ⟨rfl, rfl⟩
  go_wp2_with fail
  refine (BytesN_any _).mono ?_
  rintro e w15 ⟨rfl, rfl⟩
  go_wp2_with fail
  refine (awake_any _).mono ?_
  rintro e w16 ⟨rfl, hb16⟩
  have hend := bnext hb6 hb16
  go_wp2_with fail
  go_ret
  exact ⟨rfl, hend⟩
end Go.Proofs.Ytfncmgojeaeihaa
