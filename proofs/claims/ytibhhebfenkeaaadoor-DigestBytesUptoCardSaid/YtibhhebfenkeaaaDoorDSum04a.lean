/-
  Digest: New, Len; Add of one byte.
-/
import Derived.Test.YtibhhebfenkeaaaDoorSum04
namespace Go.Proofs.YtibhhebfenkeaaaDoor
open Go.RowKit

theorem HH_0 (l : List UInt8) : HH l 0 = s0 := rfl
set_option maxHeartbeats 800000 in
theorem New_any (w : World) :
    Calls Tryd.prog 14 #[] w fun e w' => e = .returned (.pointer (some ⟨w.heap.size, 0, none⟩)) ∧ Dg w' w.heap.size w.heap.size 0 [] 0 (.slice none 0 0) ∧ Below w.heap.size w w' := by
  go_enter Tryd.func14, Tryd.ntmps14
  go_wp2_with fail
  go_ret
  exact ⟨rfl, ⟨heap_alloc_last w _, Tl.nil _ _, Nat.le_refl _, (fun e => by cases e), Nat.le_refl _⟩, by repeat (first | exact Below.refl _ _ | assumption | refine below_drewN ?_ _ | refine Below.drew ?_ | refine Below.alloc ?_ (Nat.le_refl _) _ | refine bal ?_ _ | refine bnext ?_ (by assumption))⟩
theorem Len_any (B R k : Nat) (l : List UInt8) (z : Nat) (u : Value) (w : World) (hD : Dg w B R k l z u) :
    Calls Tryd.prog 17 #[.pointer (some ⟨R, 0, none⟩)] w fun e w' => e = .returned (.int .i64 z) ∧ w' = w := by
  have hc5 : w.cell? ⟨R, 5, none⟩ = some (.int .i64 (z : Int)) := by rw [cell_of_row _ _ 5 _ _ _ hD.row]; simp [stC]
  clear hD
  go_enter Tryd.func17, Tryd.ntmps17
  go_wp2_with fail
  go_ret
  exact ⟨rfl, rfl⟩
theorem LenN_any (w : World) : Calls Tryd.prog 17 #[.pointer none] w fun e w' => e = .returned (.int .i64 0) ∧ w' = w := by
  go_enter Tryd.func17, Tryd.ntmps17
  go_wp2_with fail
  go_ret
  exact ⟨rfl, rfl⟩
theorem AddN_any (A : Option Addr) (n c : Nat) (w : World) : Calls Tryd.prog 15 #[.pointer none, .slice A n c] w fun e w' => e = .returned (.tuple #[]) ∧ w' = w := by
  go_enter Tryd.func15, Tryd.ntmps15
  go_wp2_with fail
  exact bodyPost_ret (results_none rfl _ _ _) rfl ⟨rfl, rfl⟩
/-- Add of one byte, in a slice of its own. -/
theorem Add1_any (B R z : Nat) (l : List UInt8) (u : Value) (x : UInt8) (w : World) (hD : Dg w B R (l.length / 64) l z u) (hz : z ≤ 100000) (hlen : l.length + 1 ≤ 100000) (ht : Tabs w) (hB2 : 2 ≤ B) (H : Nat) (hH : w.heap.size = H) :
    Calls Tryd.prog 15 #[.pointer (some ⟨R, 0, none⟩), .slice (some ⟨H + 1, 0, none⟩) 1 1] ((w.alloc (.cells #[.int .u8 (x.toNat : Int)] 5)).alloc (.cells #[.slice (some ⟨H, 0, none⟩) 1 1] 22)) fun e w' =>
      e = .returned (.tuple #[]) ∧ ∃ u', Dg w' B R ((l ++ [x]).length / 64) (l ++ [x]) (z + 1) u' ∧ FrW R u u' w w' := by
  subst hH
  have hb : Below w.heap.size w ((w.alloc (.cells #[.int .u8 (x.toNat : Int)] 5)).alloc (.cells #[.slice (some ⟨w.heap.size, 0, none⟩) 1 1] 22)) := bal (bal (Below.refl _ _) _) _
  have hR := hD.inside
  have hu : ∀ k, u.ownBlock = some k → k < w.heap.size := fun k hk => (hD.tl.lt k hk).2
  have r0 : ((w.alloc (.cells #[.int .u8 (x.toNat : Int)] 5)).alloc (.cells #[.slice (some ⟨w.heap.size, 0, none⟩) 1 1] 22)).heap[w.heap.size]? = some (.cells #[.int .u8 (x.toNat : Int)] 5 (0, 0)) := hrow_alloc (heap_alloc_last w _) _
  have r1 : ((w.alloc (.cells #[.int .u8 (x.toNat : Int)] 5)).alloc (.cells #[.slice (some ⟨w.heap.size, 0, none⟩) 1 1] 22)).heap[w.heap.size + 1]? = some (.cells #[.slice (some ⟨w.heap.size, 0, none⟩) 1 1] 22 (0, 0)) := by
    have h := heap_alloc_last (w.alloc (.cells #[.int .u8 (x.toNat : Int)] 5)) (.cells #[.slice (some ⟨w.heap.size, 0, none⟩) 1 1] 22)
    rw [World.size_alloc] at h
    exact h
  refine (Add_any B R z l u [[x]] (some ⟨w.heap.size + 1, 0, none⟩) 1 _ (hD.below hb) [.slice (some ⟨w.heap.size, 0, none⟩) 1 1] rfl ?_ hz (by simpa using hlen) (by simp) (ht.below hb) hB2).mono ?_
  · intro W u' f
    have w0 : ¬ WS R u w.heap.size := by
      rintro (h | h)
      · omega
      · have := hu _ h; omega
    have w1 : ¬ WS R u (w.heap.size + 1) := by
      rintro (h | h)
      · omega
      · have := hu _ h; omega
    have q0 := f.fr.row r0 w0
    have q1 := f.fr.row r1 w1
    refine ⟨fun j v hv => ⟨_, _, rfl, ?_⟩, fun j a y ha hy => ?_⟩
    · rw [cell_of_row _ _ _ _ _ _ q1, Nat.zero_add]
      simpa using hv
    · cases j with
      | succ j => simp at hy
      | zero =>
        simp at ha hy
        subst ha hy
        refine ⟨some ⟨w.heap.size, 0, none⟩, 1, rfl, Nat.le_refl _, fun j v hv => ⟨_, _, rfl, ?_⟩, fun h => by cases h⟩
        rw [cell_of_row _ _ _ _ _ _ q0, Nat.zero_add]
        simpa [bv] using hv
  · rintro e w' ⟨rfl, u', h1, h2⟩
    refine ⟨rfl, u', by simpa using h1, (FrW.of hb).trans h2⟩
end Go.Proofs.YtibhhebfenkeaaaDoor
