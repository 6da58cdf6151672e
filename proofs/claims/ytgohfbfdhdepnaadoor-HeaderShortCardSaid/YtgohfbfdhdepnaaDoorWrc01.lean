/-
  Writer: Signed.
-/
import Derived.Test.YtgohfbfdhdepnaaDoorLow01
namespace Go.Proofs.YtgohfbfdhdepnaaDoor
open Go.RowKit

def swE (n v : Int) : Int := if n < 0 ∨ 48 < n then 1 else if (n = 0 ∧ v ≠ 0) ∨ (0 < n ∧ (v < -2 ^ (n.toNat - 1) ∨ 2 ^ (n.toNat - 1) ≤ v)) then 10 else 0
def swB (bs : List Nat) (n v : Int) : List Nat := if swE n v = 0 then bs ++ vb (v % 2 ^ n.toNat).toNat n.toNat else bs
end Go.Proofs.YtgohfbfdhdepnaaDoor
