/-
  The low bits of a number that may be less than nought.
-/
import Derived.Test.YtgohfbfdhdepnaaDoorWrb01
namespace Go.Proofs.YtgohfbfdhdepnaaDoor
open Go.RowKit

theorem i64_low (v : Int) (n : Nat) (hn : n ≤ 48) : bits .and .i64 v ((2 ^ n - 1 : Nat) : Int) = v % 2 ^ n := by
  have h48 : (2 : Nat) ^ n ≤ 2 ^ 48 := Nat.pow_le_pow_right (by omega) hn
  have h48' : (2 : Nat) ^ 48 = 281474976710656 := by decide
  have hp : 0 < (2 : Nat) ^ n := Nat.pow_pos (by omega)
  show IntKind.i64.wrap ((BitVec.ofInt 64 v &&& BitVec.ofInt 64 ((2 ^ n - 1 : Nat) : Int)).toNat : Int) = _
  have e2 : (BitVec.ofInt 64 ((2 ^ n - 1 : Nat) : Int)).toNat = 2 ^ n - 1 := by
    rw [BitVec.ofInt_natCast, BitVec.toNat_ofNat]
    exact Nat.mod_eq_of_lt (Nat.lt_of_le_of_lt (Nat.sub_le _ _) (Nat.lt_of_le_of_lt h48 (by decide)))
  rw [BitVec.toNat_and, e2, Nat.and_two_pow_sub_one_eq_mod, BitVec.toNat_ofInt]
  have hd : ((2 ^ n : Nat) : Int) ∣ ((2 ^ 64 : Nat) : Int) := Int.natCast_dvd_natCast.2 (Nat.pow_dvd_pow 2 (by omega))
  have hnn : 0 ≤ v % ((2 ^ 64 : Nat) : Int) := Int.emod_nonneg _ (by decide)
  have e3 : (((v % ((2 ^ 64 : Nat) : Int)).toNat % 2 ^ n : Nat) : Int) = v % 2 ^ n := by
    rw [Int.natCast_emod, Int.toNat_of_nonneg hnn, Int.emod_emod_of_dvd _ hd]
    simp
  have hlt : (v % ((2 ^ 64 : Nat) : Int)).toNat % 2 ^ n < 9223372036854775808 := Nat.lt_of_lt_of_le (Nat.mod_lt _ hp) (Nat.le_trans h48 (by decide))
  rw [wrap_i64_nat _ hlt, e3]

theorem sw_facts (v : Int) (k : Nat) (hk : k ≤ 47) : ∃ K1 K M z : Nat, (2 : Int) ^ k = K1 ∧ (2 : Int) ^ (k + 1) = K ∧ (1 ≤ K1 ∧ K1 ≤ 281474976710656 ∧ 1 ≤ K ∧ K ≤ 281474976710656) ∧ K - 1 = M ∧ bits .and .i64 v (M : Int) = z ∧ v % 2 ^ (k + 1) = z ∧ z < 2 ^ (k + 1) := by
  have hpk := pow48 k (by omega)
  have hpq := pow48 (k + 1) (by omega)
  have e1 : ((2 : Int) ^ k) = ((2 ^ k : Nat) : Int) := by simp
  have e2 : ((2 : Int) ^ (k + 1)) = ((2 ^ (k + 1) : Nat) : Int) := by simp
  have hz := i64_low v (k + 1) (by omega)
  have hz0 : 0 ≤ v % 2 ^ (k + 1) := Int.emod_nonneg _ (by omega)
  have hz1 : v % 2 ^ (k + 1) < 2 ^ (k + 1) := Int.emod_lt_of_pos _ (by omega)
  have hz2 : v % 2 ^ (k + 1) = ((v % 2 ^ (k + 1)).toNat : Int) := (Int.toNat_of_nonneg hz0).symm
  refine ⟨2 ^ k, 2 ^ (k + 1), 2 ^ (k + 1) - 1, (v % 2 ^ (k + 1)).toNat, e1, e2, ?_, rfl, by rw [hz]; exact hz2, hz2, ?_⟩
  · rw [e1] at hpk
    rw [e2] at hpq
    exact ⟨Int.ofNat_le.1 hpk.1, Int.ofNat_le.1 hpk.2, Int.ofNat_le.1 hpq.1, Int.ofNat_le.1 hpq.2⟩
  · rw [hz2, e2] at hz1
    exact Int.ofNat_lt.1 hz1
theorem wrap_neg_i (K : Nat) (h : K ≤ 281474976710656) : IntKind.i64.wrap (-(K : Int)) = -K := by rw [IntKind.wrap_i64]; omega
theorem wrap_neg (K : Nat) (h : K ≤ 281474976710656) : wrap64 (-(K : Int)) = -K := by unfold wrap64; omega
end Go.Proofs.YtgohfbfdhdepnaaDoor
