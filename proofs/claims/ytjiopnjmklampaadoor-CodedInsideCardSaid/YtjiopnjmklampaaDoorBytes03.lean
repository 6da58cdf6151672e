/-
  The walks of CodedInside and CodedBack over rows of UInt8.
-/
import Derived.Test.YtjiopnjmklampaaDoorBack03
namespace Go.Proofs.YtjiopnjmklampaaDoor
open Go.RowKit

theorem nv8_bv (l : List UInt8) : nv8 (l.map UInt8.toNat) = bv l := by simp [nv8, bv]
theorem u8s_lt (l : List UInt8) : ∀ x ∈ l.map UInt8.toNat, x < 256 := by
  intro x hx
  simp only [List.mem_map] at hx
  obtain ⟨y, -, rfl⟩ := hx
  have := y.toNat_lt; omega
theorem inside_bytes (n : Int) (l : List UInt8) (A : Option Addr) (c : Nat) (w : World) (hr : Rd w A (bv l)) (hc : l.length ≤ c) (hA : A = none → l.length = 0 ∧ c = 0) (ht : TabAt w) :
    Calls Tryd.prog 6 #[.int .i64 n, .slice A l.length c] w fun e w' => e = .returned (.bool true) ∧ Below w.heap.size w w' := by
  have h := inside_walk n (l.map UInt8.toNat) (u8s_lt l) A c w (by rw [nv8_bv]; exact hr) (by rw [List.length_map]; exact hc) (by rw [List.length_map]; exact hA) ht
  rwa [List.length_map] at h
theorem back_bytes (n : Int) (l : List UInt8) (A : Option Addr) (c : Nat) (w : World) (hr : Rd w A (bv l)) (hc : l.length ≤ c) (hA : A = none → l.length = 0 ∧ c = 0) (ht : TabAt w) :
    Calls Tryd.prog 4 #[.int .i64 n, .slice A l.length c] w fun e w' => e = .returned (.bool true) ∧ Below w.heap.size w w' := by
  have h := back_walk n (l.map UInt8.toNat) (u8s_lt l) A c w (by rw [nv8_bv]; exact hr) (by rw [List.length_map]; exact hc) (by rw [List.length_map]; exact hA) ht
  rwa [List.length_map] at h
end Go.Proofs.YtjiopnjmklampaaDoor
