/-
  math/bits.Len.
-/
import Derived.Test.YticfmhmkgcdhgaaBo4
import Derived.Test.YticfmhmkgcdhgaaBo7
import Derived.Test.YticfmhmkgcdhgaaBo8
import Derived.Test.YticfmhmkgcdhgaaBo9
set_option linter.unusedSimpArgs false
set_option linter.unusedVariables false
namespace Go.Proofs.Yticfmhmkgcdhgaa
open Go.RowKit
open Crc (bl bk)

theorem bl_half (x : Nat) (h : x ≠ 0) : bl x = 1 + bl (x / 2) := by
  unfold bl
  rw [if_neg h]
  by_cases h2 : x / 2 = 0
  · rw [if_pos h2]
    have : x = 1 := by omega
    subst this
    rfl
  · rw [if_neg h2, Nat.log2_def x, if_pos (by omega)]
    omega
theorem bitLen_aux : ∀ f x, x < 2 ^ f → Lib.bitLenAux f x = bl x
  | 0, x, h => by
    have : x = 0 := by omega
    subst this; rfl
  | f + 1, x, h => by
    unfold Lib.bitLenAux
    by_cases h0 : x = 0
    · subst h0; rfl
    · rw [if_neg h0, bitLen_aux f (x / 2) (by rw [Nat.pow_succ] at h; omega), bl_half x h0]
theorem bitLen_bl (x : Nat) (h : x < 18446744073709551616) : Lib.bitLen x = bl x := bitLen_aux 64 x h

theorem Len_any (x : Nat) (hx : x < 18446744073709551616) (w : World) :
    Calls Try.prog 28 #[.int .u64 (x : Int)] w fun e w' => e = .returned (.int .i64 (bl x : Nat)) ∧ w' = w := by
  have H := Lib.hid (Len64_any (x : Int) w (by omega) (by omega))
  rw [Int.toNat_natCast, bitLen_bl x hx] at H
  clear hx
  go_enter Try.func28, Try.ntmps28
  go_wp2_with fail
  refine H.out.mono ?_
  rintro e w' ⟨rfl, rfl⟩
  go_wp2_with fail
  go_ret
  exact ⟨rfl, rfl⟩
end Go.Proofs.Yticfmhmkgcdhgaa
