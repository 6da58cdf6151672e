/-
  Reader: Align.
-/
import Derived.Test.YtgohfbfdhdepnaaDoorRdc01
namespace Go.Proofs.YtgohfbfdhdepnaaDoor
open Go.RowKit

def alN (t : Nat) : Nat := (8 - t % 8) % 8
def alE (l : List UInt8) (t : Nat) : Int := if sg (bitAt l) t (alN t) = 0 then 0 else 12
def alV (l : List UInt8) (t : Nat) : Nat := if sg (bitAt l) t (alN t) = 0 then alN t else 0
def alT (l : List UInt8) (t : Nat) : Nat := if sg (bitAt l) t (alN t) = 0 then t + alN t else t

theorem u8_and_nat (a b : Nat) (ha : a < 256) (hb : b < 256) : bits .and .u8 (a : Int) (b : Int) = ((a &&& b : Nat) : Int) := by
  have hx : a &&& b < 2 ^ 8 := Nat.and_lt_two_pow _ (by omega)
  show IntKind.u8.wrap ((BitVec.ofInt 8 (a : Int) &&& BitVec.ofInt 8 (b : Int)).toNat : Int) = _
  rw [BitVec.toNat_and, ofInt_u8 a ha, ofInt_u8 b hb]
  simp only [IntKind.wrap, IntKind.bits, IntKind.signed]
  simp
  omega
theorem low_and (x n : Nat) (hx : x < 256) (hn : n < 8) : bits .and .u8 (x : Int) (((2 : Int) ^ n - 1) % 256) = ((x % 2 ^ n : Nat) : Int) := by
  obtain ⟨h1, h2⟩ := pow8 n (by omega)
  have h3 : 2 ^ n ≤ 2 ^ 7 := Nat.pow_le_pow_right (by omega) (by omega)
  have e1 : ((2 : Int) ^ n) = ((2 ^ n : Nat) : Int) := by simp
  have e7 : x &&& (2 ^ n - 1) = x % 2 ^ n := Nat.and_two_pow_sub_one_eq_mod _ _
  have e2 : (((2 ^ n : Nat) : Int) - 1) % 256 = ((2 ^ n - 1 : Nat) : Int) := by
    clear e1 e7
    generalize 2 ^ n = K at *
    omega
  rw [e1, e2, u8_and_nat x (2 ^ n - 1) hx (by omega), e7]
end Go.Proofs.YtgohfbfdhdepnaaDoor
