/-
  The bits of jetsamref03.Put, eight to a byte, are the bytes of coded.Put. (Printed by wip/gen/pack.py.)
-/
import Derived.Test.YtgohfbfdhdepnaaDoorRefPut
namespace Go.Proofs.YtgohfbfdhdepnaaDoor.C3

theorem rb_bits (n k : Nat) : ∀ t, ∀ x ∈ rb n k t, x ≤ 1
  | 0 => by intro x hx; simp [rb] at hx; omega
  | t + 1 => by
    intro x hx
    simp only [rb, List.mem_append, List.mem_singleton] at hx
    rcases hx with (h | h) | h
    · exact rb_bits n k t x h
    · split at h <;> simp at h; omega
    · omega
theorem div_up (n c j : Nat) : n / 2 ^ (c + j) = n / 2 ^ c / 2 ^ j := by rw [Nat.pow_add, Nat.div_div_eq_div_mul]
theorem bit6 (n c : Nat) : 2 * (2 * (2 * (2 * (2 * (2 * (2 * (2 * 0 + 1) + 0) + n / 2 ^ (c + 5) % 2) + n / 2 ^ (c + 4) % 2) + n / 2 ^ (c + 3) % 2) + n / 2 ^ (c + 2) % 2) + n / 2 ^ (c + 1) % 2) + n / 2 ^ c % 2 = 128 + n / 2 ^ c % 64 := by
  rw [div_up n c 5, div_up n c 4, div_up n c 3, div_up n c 2, div_up n c 1]
  generalize n / 2 ^ c = m
  omega
theorem pack_2 (n : Nat) : packN (rb n 2 (tot 2)) = [2 * (2 * (2 * (2 * (2 * (2 * (2 * (2 * 0 + 1) + 1) + 0) + n / 2 ^ (6 + 4) % 2) + n / 2 ^ (6 + 3) % 2) + n / 2 ^ (6 + 2) % 2) + n / 2 ^ (6 + 1) % 2) + n / 2 ^ 6 % 2, 2 * (2 * (2 * (2 * (2 * (2 * (2 * (2 * 0 + 1) + 0) + n / 2 ^ (0 + 5) % 2) + n / 2 ^ (0 + 4) % 2) + n / 2 ^ (0 + 3) % 2) + n / 2 ^ (0 + 2) % 2) + n / 2 ^ (0 + 1) % 2) + n / 2 ^ 0 % 2] := by kernel_rfl
theorem first_2 (n : Nat) (hn : n < 2 ^ 11) : 2 * (2 * (2 * (2 * (2 * (2 * (2 * (2 * 0 + 1) + 1) + 0) + n / 2 ^ (6 + 4) % 2) + n / 2 ^ (6 + 3) % 2) + n / 2 ^ (6 + 2) % 2) + n / 2 ^ (6 + 1) % 2) + n / 2 ^ 6 % 2 = firstV n 2 := by
  have hm : n / 2 ^ 6 < 2 ^ 5 := by rw [Nat.div_lt_iff_lt_mul (Nat.two_pow_pos _), ← Nat.pow_add]; exact hn
  show _ = 256 - 2 ^ (8 - 2) + n / 2 ^ 6
  rw [div_up n 6 4, div_up n 6 3, div_up n 6 2, div_up n 6 1]
  generalize n / 2 ^ 6 = m at *
  omega
theorem pack_3 (n : Nat) : packN (rb n 3 (tot 3)) = [2 * (2 * (2 * (2 * (2 * (2 * (2 * (2 * 0 + 1) + 1) + 1) + 0) + n / 2 ^ (12 + 3) % 2) + n / 2 ^ (12 + 2) % 2) + n / 2 ^ (12 + 1) % 2) + n / 2 ^ 12 % 2, 2 * (2 * (2 * (2 * (2 * (2 * (2 * (2 * 0 + 1) + 0) + n / 2 ^ (6 + 5) % 2) + n / 2 ^ (6 + 4) % 2) + n / 2 ^ (6 + 3) % 2) + n / 2 ^ (6 + 2) % 2) + n / 2 ^ (6 + 1) % 2) + n / 2 ^ 6 % 2, 2 * (2 * (2 * (2 * (2 * (2 * (2 * (2 * 0 + 1) + 0) + n / 2 ^ (0 + 5) % 2) + n / 2 ^ (0 + 4) % 2) + n / 2 ^ (0 + 3) % 2) + n / 2 ^ (0 + 2) % 2) + n / 2 ^ (0 + 1) % 2) + n / 2 ^ 0 % 2] := by kernel_rfl
theorem first_3 (n : Nat) (hn : n < 2 ^ 16) : 2 * (2 * (2 * (2 * (2 * (2 * (2 * (2 * 0 + 1) + 1) + 1) + 0) + n / 2 ^ (12 + 3) % 2) + n / 2 ^ (12 + 2) % 2) + n / 2 ^ (12 + 1) % 2) + n / 2 ^ 12 % 2 = firstV n 3 := by
  have hm : n / 2 ^ 12 < 2 ^ 4 := by rw [Nat.div_lt_iff_lt_mul (Nat.two_pow_pos _), ← Nat.pow_add]; exact hn
  show _ = 256 - 2 ^ (8 - 3) + n / 2 ^ 12
  rw [div_up n 12 3, div_up n 12 2, div_up n 12 1]
  generalize n / 2 ^ 12 = m at *
  omega
theorem pack_4 (n : Nat) : packN (rb n 4 (tot 4)) = [2 * (2 * (2 * (2 * (2 * (2 * (2 * (2 * 0 + 1) + 1) + 1) + 1) + 0) + n / 2 ^ (18 + 2) % 2) + n / 2 ^ (18 + 1) % 2) + n / 2 ^ 18 % 2, 2 * (2 * (2 * (2 * (2 * (2 * (2 * (2 * 0 + 1) + 0) + n / 2 ^ (12 + 5) % 2) + n / 2 ^ (12 + 4) % 2) + n / 2 ^ (12 + 3) % 2) + n / 2 ^ (12 + 2) % 2) + n / 2 ^ (12 + 1) % 2) + n / 2 ^ 12 % 2, 2 * (2 * (2 * (2 * (2 * (2 * (2 * (2 * 0 + 1) + 0) + n / 2 ^ (6 + 5) % 2) + n / 2 ^ (6 + 4) % 2) + n / 2 ^ (6 + 3) % 2) + n / 2 ^ (6 + 2) % 2) + n / 2 ^ (6 + 1) % 2) + n / 2 ^ 6 % 2, 2 * (2 * (2 * (2 * (2 * (2 * (2 * (2 * 0 + 1) + 0) + n / 2 ^ (0 + 5) % 2) + n / 2 ^ (0 + 4) % 2) + n / 2 ^ (0 + 3) % 2) + n / 2 ^ (0 + 2) % 2) + n / 2 ^ (0 + 1) % 2) + n / 2 ^ 0 % 2] := by kernel_rfl
theorem first_4 (n : Nat) (hn : n < 2 ^ 21) : 2 * (2 * (2 * (2 * (2 * (2 * (2 * (2 * 0 + 1) + 1) + 1) + 1) + 0) + n / 2 ^ (18 + 2) % 2) + n / 2 ^ (18 + 1) % 2) + n / 2 ^ 18 % 2 = firstV n 4 := by
  have hm : n / 2 ^ 18 < 2 ^ 3 := by rw [Nat.div_lt_iff_lt_mul (Nat.two_pow_pos _), ← Nat.pow_add]; exact hn
  show _ = 256 - 2 ^ (8 - 4) + n / 2 ^ 18
  rw [div_up n 18 2, div_up n 18 1]
  generalize n / 2 ^ 18 = m at *
  omega
theorem pack_5 (n : Nat) : packN (rb n 5 (tot 5)) = [2 * (2 * (2 * (2 * (2 * (2 * (2 * (2 * 0 + 1) + 1) + 1) + 1) + 1) + 0) + n / 2 ^ (24 + 1) % 2) + n / 2 ^ 24 % 2, 2 * (2 * (2 * (2 * (2 * (2 * (2 * (2 * 0 + 1) + 0) + n / 2 ^ (18 + 5) % 2) + n / 2 ^ (18 + 4) % 2) + n / 2 ^ (18 + 3) % 2) + n / 2 ^ (18 + 2) % 2) + n / 2 ^ (18 + 1) % 2) + n / 2 ^ 18 % 2, 2 * (2 * (2 * (2 * (2 * (2 * (2 * (2 * 0 + 1) + 0) + n / 2 ^ (12 + 5) % 2) + n / 2 ^ (12 + 4) % 2) + n / 2 ^ (12 + 3) % 2) + n / 2 ^ (12 + 2) % 2) + n / 2 ^ (12 + 1) % 2) + n / 2 ^ 12 % 2, 2 * (2 * (2 * (2 * (2 * (2 * (2 * (2 * 0 + 1) + 0) + n / 2 ^ (6 + 5) % 2) + n / 2 ^ (6 + 4) % 2) + n / 2 ^ (6 + 3) % 2) + n / 2 ^ (6 + 2) % 2) + n / 2 ^ (6 + 1) % 2) + n / 2 ^ 6 % 2, 2 * (2 * (2 * (2 * (2 * (2 * (2 * (2 * 0 + 1) + 0) + n / 2 ^ (0 + 5) % 2) + n / 2 ^ (0 + 4) % 2) + n / 2 ^ (0 + 3) % 2) + n / 2 ^ (0 + 2) % 2) + n / 2 ^ (0 + 1) % 2) + n / 2 ^ 0 % 2] := by kernel_rfl
theorem first_5 (n : Nat) (hn : n < 2 ^ 26) : 2 * (2 * (2 * (2 * (2 * (2 * (2 * (2 * 0 + 1) + 1) + 1) + 1) + 1) + 0) + n / 2 ^ (24 + 1) % 2) + n / 2 ^ 24 % 2 = firstV n 5 := by
  have hm : n / 2 ^ 24 < 2 ^ 2 := by rw [Nat.div_lt_iff_lt_mul (Nat.two_pow_pos _), ← Nat.pow_add]; exact hn
  show _ = 256 - 2 ^ (8 - 5) + n / 2 ^ 24
  rw [div_up n 24 1]
  generalize n / 2 ^ 24 = m at *
  omega
theorem pack_6 (n : Nat) : packN (rb n 6 (tot 6)) = [2 * (2 * (2 * (2 * (2 * (2 * (2 * (2 * 0 + 1) + 1) + 1) + 1) + 1) + 1) + 0) + n / 2 ^ 30 % 2, 2 * (2 * (2 * (2 * (2 * (2 * (2 * (2 * 0 + 1) + 0) + n / 2 ^ (24 + 5) % 2) + n / 2 ^ (24 + 4) % 2) + n / 2 ^ (24 + 3) % 2) + n / 2 ^ (24 + 2) % 2) + n / 2 ^ (24 + 1) % 2) + n / 2 ^ 24 % 2, 2 * (2 * (2 * (2 * (2 * (2 * (2 * (2 * 0 + 1) + 0) + n / 2 ^ (18 + 5) % 2) + n / 2 ^ (18 + 4) % 2) + n / 2 ^ (18 + 3) % 2) + n / 2 ^ (18 + 2) % 2) + n / 2 ^ (18 + 1) % 2) + n / 2 ^ 18 % 2, 2 * (2 * (2 * (2 * (2 * (2 * (2 * (2 * 0 + 1) + 0) + n / 2 ^ (12 + 5) % 2) + n / 2 ^ (12 + 4) % 2) + n / 2 ^ (12 + 3) % 2) + n / 2 ^ (12 + 2) % 2) + n / 2 ^ (12 + 1) % 2) + n / 2 ^ 12 % 2, 2 * (2 * (2 * (2 * (2 * (2 * (2 * (2 * 0 + 1) + 0) + n / 2 ^ (6 + 5) % 2) + n / 2 ^ (6 + 4) % 2) + n / 2 ^ (6 + 3) % 2) + n / 2 ^ (6 + 2) % 2) + n / 2 ^ (6 + 1) % 2) + n / 2 ^ 6 % 2, 2 * (2 * (2 * (2 * (2 * (2 * (2 * (2 * 0 + 1) + 0) + n / 2 ^ (0 + 5) % 2) + n / 2 ^ (0 + 4) % 2) + n / 2 ^ (0 + 3) % 2) + n / 2 ^ (0 + 2) % 2) + n / 2 ^ (0 + 1) % 2) + n / 2 ^ 0 % 2] := by kernel_rfl
theorem first_6 (n : Nat) (hn : n < 2 ^ 31) : 2 * (2 * (2 * (2 * (2 * (2 * (2 * (2 * 0 + 1) + 1) + 1) + 1) + 1) + 1) + 0) + n / 2 ^ 30 % 2 = firstV n 6 := by
  have hm : n / 2 ^ 30 < 2 ^ 1 := by rw [Nat.div_lt_iff_lt_mul (Nat.two_pow_pos _), ← Nat.pow_add]; exact hn
  show _ = 256 - 2 ^ (8 - 6) + n / 2 ^ 30
  generalize n / 2 ^ 30 = m at *
  omega
theorem pack_7 (n : Nat) : packN (rb n 7 (tot 7)) = [2 * (2 * (2 * (2 * (2 * (2 * (2 * (2 * 0 + 1) + 1) + 1) + 1) + 1) + 1) + 1) + 0, 2 * (2 * (2 * (2 * (2 * (2 * (2 * (2 * 0 + 1) + 0) + n / 2 ^ (30 + 5) % 2) + n / 2 ^ (30 + 4) % 2) + n / 2 ^ (30 + 3) % 2) + n / 2 ^ (30 + 2) % 2) + n / 2 ^ (30 + 1) % 2) + n / 2 ^ 30 % 2, 2 * (2 * (2 * (2 * (2 * (2 * (2 * (2 * 0 + 1) + 0) + n / 2 ^ (24 + 5) % 2) + n / 2 ^ (24 + 4) % 2) + n / 2 ^ (24 + 3) % 2) + n / 2 ^ (24 + 2) % 2) + n / 2 ^ (24 + 1) % 2) + n / 2 ^ 24 % 2, 2 * (2 * (2 * (2 * (2 * (2 * (2 * (2 * 0 + 1) + 0) + n / 2 ^ (18 + 5) % 2) + n / 2 ^ (18 + 4) % 2) + n / 2 ^ (18 + 3) % 2) + n / 2 ^ (18 + 2) % 2) + n / 2 ^ (18 + 1) % 2) + n / 2 ^ 18 % 2, 2 * (2 * (2 * (2 * (2 * (2 * (2 * (2 * 0 + 1) + 0) + n / 2 ^ (12 + 5) % 2) + n / 2 ^ (12 + 4) % 2) + n / 2 ^ (12 + 3) % 2) + n / 2 ^ (12 + 2) % 2) + n / 2 ^ (12 + 1) % 2) + n / 2 ^ 12 % 2, 2 * (2 * (2 * (2 * (2 * (2 * (2 * (2 * 0 + 1) + 0) + n / 2 ^ (6 + 5) % 2) + n / 2 ^ (6 + 4) % 2) + n / 2 ^ (6 + 3) % 2) + n / 2 ^ (6 + 2) % 2) + n / 2 ^ (6 + 1) % 2) + n / 2 ^ 6 % 2, 2 * (2 * (2 * (2 * (2 * (2 * (2 * (2 * 0 + 1) + 0) + n / 2 ^ (0 + 5) % 2) + n / 2 ^ (0 + 4) % 2) + n / 2 ^ (0 + 3) % 2) + n / 2 ^ (0 + 2) % 2) + n / 2 ^ (0 + 1) % 2) + n / 2 ^ 0 % 2] := by kernel_rfl
theorem first_7 (n : Nat) (hn : n < 2 ^ 36) : 2 * (2 * (2 * (2 * (2 * (2 * (2 * (2 * 0 + 1) + 1) + 1) + 1) + 1) + 1) + 1) + 0 = firstV n 7 := by
  have hm : n / 2 ^ 36 < 2 ^ 0 := by rw [Nat.div_lt_iff_lt_mul (Nat.two_pow_pos _), ← Nat.pow_add]; exact hn
  show _ = 256 - 2 ^ (8 - 7) + n / 2 ^ 36
  generalize n / 2 ^ 36 = m at *
  omega
theorem code_eq (n : Nat) (hn : n < 68719476736) (h1 : szN n ≠ 1) : packN (rb n (szN n) (tot (szN n))) = codeN n ∧ (rb n (szN n) (tot (szN n))).length = 8 * szN n ∧ ∀ x ∈ rb n (szN n) (tot (szN n)), x ≤ 1 := by
  have hs := szN_pos n
  have hk : szN n = 2 ∨ szN n = 3 ∨ szN n = 4 ∨ szN n = 5 ∨ szN n = 6 ∨ szN n = 7 := by omega
  refine ⟨?_, ?_, rb_bits n _ _⟩
  · unfold codeN
    rw [if_neg h1]
    rcases hk with h | h | h | h | h | h
    · have hl : n < 2 ^ 11 := by
        unfold szN at h; (repeat' split at h) <;> omega
      rw [h, pack_2, first_2 n hl, bit6 n 0]
      rfl
    · have hl : n < 2 ^ 16 := by
        unfold szN at h; (repeat' split at h) <;> omega
      rw [h, pack_3, first_3 n hl, bit6 n 6, bit6 n 0]
      rfl
    · have hl : n < 2 ^ 21 := by
        unfold szN at h; (repeat' split at h) <;> omega
      rw [h, pack_4, first_4 n hl, bit6 n 12, bit6 n 6, bit6 n 0]
      rfl
    · have hl : n < 2 ^ 26 := by
        unfold szN at h; (repeat' split at h) <;> omega
      rw [h, pack_5, first_5 n hl, bit6 n 18, bit6 n 12, bit6 n 6, bit6 n 0]
      rfl
    · have hl : n < 2 ^ 31 := by
        unfold szN at h; (repeat' split at h) <;> omega
      rw [h, pack_6, first_6 n hl, bit6 n 24, bit6 n 18, bit6 n 12, bit6 n 6, bit6 n 0]
      rfl
    · have hl : n < 2 ^ 36 := by
        unfold szN at h; (repeat' split at h) <;> omega
      rw [h, pack_7, first_7 n hl, bit6 n 30, bit6 n 24, bit6 n 18, bit6 n 12, bit6 n 6, bit6 n 0]
      rfl
  · rw [rb_length]
    rcases hk with h | h | h | h | h | h <;> rw [h] <;> decide
end Go.Proofs.YtgohfbfdhdepnaaDoor.C3
