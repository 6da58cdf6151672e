/-
  Writer: Align, Unary, Signed.
-/
import Derived.Test.YtgohfbfdhdepnaaDoorWr01
namespace Go.Proofs.YtgohfbfdhdepnaaDoor
open Go.RowKit

def zb (n : Nat) : List Nat := List.replicate n 0
theorem zb_length (n : Nat) : (zb n).length = n := by simp [zb]
theorem vb_zero (n : Nat) : vb 0 n = zb n := by
  refine List.ext_getElem (by rw [vb_length, zb_length]) fun i h1 h2 => ?_
  simp [vb, zb]
theorem zb_add (a b : Nat) : zb a ++ zb b = zb (a + b) := by simp [zb, List.replicate_append_replicate]

def uwE (n : Int) : Int := if n < 0 ∨ 65536 < n then 10 else 0
def uwB (bs : List Nat) (n : Int) : List Nat := if uwE n = 0 then bs ++ (zb n.toNat ++ [1]) else bs
end Go.Proofs.YtgohfbfdhdepnaaDoor
