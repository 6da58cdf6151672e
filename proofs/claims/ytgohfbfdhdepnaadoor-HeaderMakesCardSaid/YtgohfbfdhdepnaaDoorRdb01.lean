/-
  Reader: Take whole, Signed, bit, Unary, Align.
-/
import Derived.Test.YtgohfbfdhdepnaaDoorTake01
namespace Go.Proofs.YtgohfbfdhdepnaaDoor
open Go.RowKit

theorem Take_any (R t : Nat) (A : Option Addr) (l : List UInt8) (c : Nat) (n : Int) (w : World) (hr : Rdr w R t A l c) :
    Calls Tryd.prog 62 #[.pointer (some ⟨R, 0, none⟩), .int .i64 n] w fun e w' => e = .returned (.tuple #[.int .i64 (tkV l t n : Nat), .int .i64 (tkE n (8 * l.length - t))]) ∧ Rdr w' R (tkT l t n) A l c ∧ Fr (· = R) w w' := by
  by_cases hE : tkE n (8 * l.length - t) = 0
  · have hn : 0 ≤ n ∧ n ≤ 48 ∧ n ≤ 8 * l.length - t := by
      have hle := hr.le
      unfold tkE at hE
      split at hE
      · cases hE
      · split at hE
        · cases hE
        · omega
    obtain ⟨m, rfl⟩ : ∃ m : Nat, n = m := ⟨n.toNat, by omega⟩
    have hle := hr.le
    rw [tkV, tkT, if_pos hE, if_pos hE, hE, Int.toNat_natCast]
    exact Take_ok R t A l c m w hr (by omega) (by omega)
  · refine (Take_no R t A l c n w hr hE).mono ?_
    rintro e w' ⟨rfl, hb⟩
    rw [tkV, tkT, if_neg hE, if_neg hE]
    exact ⟨rfl, hr.below hb, Fr.of hb⟩

/-- What Signed reads. -/
def sgS (f : Nat → Nat) (t n : Nat) : Int := if 0 < n ∧ sg f t n / 2 ^ (n - 1) = 1 then (sg f t n : Int) - 2 ^ n else sg f t n
def sdV (l : List UInt8) (t : Nat) (n : Int) : Int := if tkE n (8 * l.length - t) = 0 then sgS (bitAt l) t n.toNat else 0
theorem pow48 (n : Nat) (h : n ≤ 48) : (1 : Int) ≤ 2 ^ n ∧ (2 : Int) ^ n ≤ 281474976710656 := by
  have h1 : (2 : Nat) ^ n ≤ 2 ^ 48 := Nat.pow_le_pow_right (by omega) h
  have h2 : 0 < (2 : Nat) ^ n := Nat.pow_pos (by omega)
  have e : ((2 : Int) ^ n) = ((2 ^ n : Nat) : Int) := by simp
  rw [e]
  have h3 : (2 : Nat) ^ 48 = 281474976710656 := by decide
  omega

end Go.Proofs.YtgohfbfdhdepnaaDoor
