/-
  Reader: Unary, Align.
-/
import Derived.Test.YtgohfbfdhdepnaaDoorRdb01
namespace Go.Proofs.YtgohfbfdhdepnaaDoor
open Go.RowKit

/-- How many noughts there are ahead of a one, of so many bits. -/
def zs (f : Nat → Nat) : Nat → Nat → Nat
  | _, 0 => 0
  | t, m + 1 => if f t = 1 then 0 else 1 + zs f (t + 1) m
theorem zs_le (f : Nat → Nat) : ∀ m t, zs f t m ≤ m
  | 0, _ => Nat.le_refl _
  | m + 1, t => by
    rw [zs]
    split
    · omega
    · have := zs_le f m (t + 1); omega
theorem zs_skip (f : Nat → Nat) : ∀ k m p, (∀ i, i < k → f (p + i) ≠ 1) → k ≤ m → zs f p m = k + zs f (p + k) (m - k)
  | 0, m, p, _, _ => by simp
  | k + 1, 0, p, _, h => by omega
  | k + 1, m + 1, p, h, hk => by
    have h0 := h 0 (by omega)
    rw [Nat.add_zero] at h0
    rw [zs, if_neg h0, zs_skip f k m (p + 1) (fun i hi => by have := h (i + 1) (by omega); rwa [show p + (i + 1) = p + 1 + i from by omega] at this) (by omega), show p + 1 + k = p + (k + 1) from by omega, show m + 1 - (k + 1) = m - k from by omega]
    omega
def unE (l : List UInt8) (t : Nat) : Int := if zs (bitAt l) t (8 * l.length - t) < 8 * l.length - t then 0 else 11
def unV (l : List UInt8) (t : Nat) : Nat := if zs (bitAt l) t (8 * l.length - t) < 8 * l.length - t then zs (bitAt l) t (8 * l.length - t) else 0
def unT (l : List UInt8) (t : Nat) : Nat := if zs (bitAt l) t (8 * l.length - t) < 8 * l.length - t then t + zs (bitAt l) t (8 * l.length - t) + 1 else t
theorem bitAt_zero (l : List UInt8) (p i : Nat) (hp : p % 8 = 0) (hi : i < 8) (h0 : (l.getD (p / 8) 0).toNat = 0) : bitAt l (p + i) ≠ 1 := by
  rw [bitAt, show (p + i) / 8 = p / 8 from by omega, h0, Nat.zero_div]
  decide

end Go.Proofs.YtgohfbfdhdepnaaDoor
