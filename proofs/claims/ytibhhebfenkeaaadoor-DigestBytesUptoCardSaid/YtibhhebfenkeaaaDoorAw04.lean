/-
  jetsamlaw04.awake: its walk.
-/
import Derived.Test.YtibhhebfenkeaaaDoorEq04
import Derived.Test.YtibhhebfenkeaaaDoorByt04
import Derived.Test.YtibhhebfenkeaaaDoorBy104
set_option pp.deepTerms true
set_option pp.maxSteps 100000
namespace Go.Proofs.YtibhhebfenkeaaaDoor
open Go.RowKit

theorem aw_out : outX 12 (allX [[1, -1], [2, 3]]) = [1, 0, 2, 0, 255, 255, 3, 0] := by decide +kernel
theorem eql_lit (w : World) : (binOp .eql 24 (.agg (osR (mdS []) 16)) (.agg #[.int .u8 212, .int .u8 29, .int .u8 140, .int .u8 217, .int .u8 143, .int .u8 0, .int .u8 178, .int .u8 4, .int .u8 233, .int .u8 128, .int .u8 9, .int .u8 152, .int .u8 236, .int .u8 248, .int .u8 66, .int .u8 126])).run Tryd.prog w = .ok (.bool true) w := by
  have h := eql16 w (mdS [])
  conv at h => lhs; arg 2; arg 4; rw [md_empty]
  exact h
theorem aw_ok : ∀ x ∈ allX [[1, -1], [2, 3]], okX 12 x := by decide +kernel
theorem ZZ.two (w : World) (a b c d : Int) : ZZ (((w.alloc (.cells #[.int .i64 a, .int .i64 b] 3)).alloc (.cells #[.int .i64 c, .int .i64 d] 3)).alloc (.cells #[.slice (some ⟨w.heap.size, 0, none⟩) 2 2, .slice (some ⟨w.heap.size + 1, 0, none⟩) 2 2] 32)) (some ⟨w.heap.size + 1 + 1, 0, none⟩) [[a, b], [c, d]] := by
  obtain ⟨w1, h1⟩ : ∃ w1, w.alloc (.cells #[.int .i64 a, .int .i64 b] 3) = w1 := ⟨_, rfl⟩
  obtain ⟨w2, h2⟩ : ∃ w2, w1.alloc (.cells #[.int .i64 c, .int .i64 d] 3) = w2 := ⟨_, rfl⟩
  have s1 : w1.heap.size = w.heap.size + 1 := by rw [← h1]; exact World.size_alloc _ _
  have s2 : w2.heap.size = w.heap.size + 1 + 1 := by rw [← h2, World.size_alloc, s1]
  have r0 : w1.heap[w.heap.size]? = some (.cells #[.int .i64 a, .int .i64 b] 3 (0, 0)) := by rw [← h1]; exact heap_alloc_last w _
  have r1 : w2.heap[w.heap.size + 1]? = some (.cells #[.int .i64 c, .int .i64 d] 3 (0, 0)) := by rw [← h2, ← s1]; exact heap_alloc_last w1 _
  have r0' : w2.heap[w.heap.size]? = some (.cells #[.int .i64 a, .int .i64 b] 3 (0, 0)) := by rw [← h2]; exact hrow_alloc r0 _
  have r2 : ∀ o, (w2.alloc o).heap[w.heap.size + 1 + 1]? = some o := fun o => by rw [← s2]; exact heap_alloc_last w2 o
  rw [h1, h2]
  refine ⟨[.slice (some ⟨w.heap.size, 0, none⟩) 2 2, .slice (some ⟨w.heap.size + 1, 0, none⟩) 2 2], rfl, fun j v hv => ⟨_, _, rfl, ?_⟩, fun j x y hx hy => ?_⟩
  · rw [cell_of_row _ _ _ _ _ _ (r2 _), Nat.zero_add]; simpa using hv
  · have q0 := hrow_alloc r0' (.cells #[.slice (some ⟨w.heap.size, 0, none⟩) 2 2, .slice (some ⟨w.heap.size + 1, 0, none⟩) 2 2] 32)
    have q1 := hrow_alloc r1 (.cells #[.slice (some ⟨w.heap.size, 0, none⟩) 2 2, .slice (some ⟨w.heap.size + 1, 0, none⟩) 2 2] 32)
    match j with
    | 0 =>
      simp at hx hy
      subst hx hy
      refine ⟨_, 2, rfl, by simp, fun j v hv => ⟨_, _, rfl, ?_⟩⟩
      rw [cell_of_row _ _ _ _ _ _ q0, Nat.zero_add]; simpa [zv] using hv
    | 1 =>
      simp at hx hy
      subst hx hy
      refine ⟨_, 2, rfl, by simp, fun j v hv => ⟨_, _, rfl, ?_⟩⟩
      rw [cell_of_row _ _ _ _ _ _ q1, Nat.zero_add]; simpa [zv] using hv
    | j + 2 => simp at hy

set_option maxRecDepth 100000 in
set_option maxHeartbeats 4000000 in
theorem awake_any (w : World) (ht : Tabs w) : Calls Tryd.prog 8 #[] w fun e w' => e = .returned (.bool true) ∧ Below w.heap.size w w' := by
  have HF := Lib.hid (FSum_any [] none 0 w ⟨[], rfl, (fun j v hv => by simp at hv), fun j x y hx => by simp at hx⟩ (by simp) (by simp) ht)
  rw [List.flatten_nil] at HF
  clear ht
  go_enter Tryd.func8, Tryd.ntmps8
  go_wp2_with fail
  refine HF.out.mono ?_
  rintro e w1 ⟨rfl, hb1⟩
  have Hb1 := Lib.hid hb1
  clear HF hb1
  go_wp2_with (refine wpList_store_new (c := #[.int .u8 0, .int .u8 0, .int .u8 0, .int .u8 0, .int .u8 0, .int .u8 0, .int .u8 0, .int .u8 0, .int .u8 0, .int .u8 0, .int .u8 0, .int .u8 0, .int .u8 0, .int .u8 0, .int .u8 0, .int .u8 0]) (c' := osR (mdS []) 16) rfl 24 _ _ rfl w1.heap.size rfl rfl rfl (osR_info _ 16) (by rw [osR_size]; rfl) (osR_one _ 16) ?_; intro w2 hw2)
  have hO2 : w2.heap[w1.heap.size]? = some (.cells (osR (mdS []) 16) 24 (0, 0)) := by rw [← hw2]; exact heap_alloc_last w1 _
  have Hb2 : Hid (Below w.heap.size w w2) := by show Below _ _ _; rw [← hw2]; exact bal Hb1.out _
  have HO2 := Lib.hid hO2
  have HDB := Lib.hid (DB_any 12 [[1, -1], [2, 3]] (some ⟨w2.heap.size + 1 + 1, 0, none⟩) 2 _ (ZZ.two w2 1 (-1) 2 3) (by intro x hx; simp at hx; rcases hx with rfl | rfl <;> simp) (by simp))
  have harg : argX 12 [[1, -1], [2, 3]] := ⟨by decide, by decide, by decide, by decide, by decide⟩
  have Harg := Lib.hid harg
  clear hO2 hw2 harg
  refine HDB.out.mono ?_
  rintro e w3 ⟨hb3, ⟨hn, -⟩ | ⟨-, hn, -⟩ | ⟨-, -, v, rfl, Hown⟩⟩
  · exact absurd Harg.out hn
  · exact absurd aw_ok hn
  have hown := Hown.out
  rw [show ((12 : Int)).toNat = 12 from rfl, aw_out] at hown
  obtain ⟨A3, c3, rfl, -, -, hr3, -⟩ := own_rd4 hown
  have Hb23 : Hid (Below w2.heap.size w2 w3) := bnext (bal (bal (bal (Below.refl _ _) _) _) _) hb3
  have HO3 := Lib.hid (hrow_below HO2.out Hb23.out)
  have Hb3 := Lib.hid (bnext Hb2.out Hb23.out)
  have HBy := Lib.hid (bytesQ_any [1, 0, 2, 0, 255, 255, 3, 0] [1, 0, 2, 0, 255, 255, 3, 0] A3 (some ⟨w3.heap.size, 0, none⟩) c3 8 (w3.alloc (.cells #[.int .u8 1, .int .u8 0, .int .u8 2, .int .u8 0, .int .u8 255, .int .u8 255, .int .u8 3, .int .u8 0] 5)) (hr3.alloc _) (Rd.new w3 _ _) (by decide))
  rw [decide_eq_true rfl] at HBy
  clear hown Hown hr3 hb3 HDB HO2 Hb23 Harg
  go_wp2_with (first | (refine wpList_load_row rfl 24 _ rfl w1.heap.size rfl 24 (osR (mdS []) 16) (0, 0) _ HO3.out Tryd.underlying24 rfl (osR_info _ 16) ?_) | (refine wpList_plain rfl fun K hK => wp_bin .eql 24 _ _ _ rfl rfl rfl (by kernel_rfl) (eql_lit _) (hK _ _ ?_)))
  refine HBy.out.mono ?_
  rintro e w4 ⟨rfl, q, rfl⟩
  have hb4 := below_drewN (bal Hb3.out (.cells #[.int .u8 1, .int .u8 0, .int .u8 2, .int .u8 0, .int .u8 255, .int .u8 255, .int .u8 3, .int .u8 0] 5)) q
  go_wp2_with fail
  go_ret
  exact ⟨rfl, hb4⟩
end Go.Proofs.YtibhhebfenkeaaaDoor
