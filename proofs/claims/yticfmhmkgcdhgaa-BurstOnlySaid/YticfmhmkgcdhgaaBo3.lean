/-
  Plain laws of the sums: two texts, and a sum behind its text.
-/
import Derived.Test.YticfmhmkgcdhgaaBo2
set_option linter.unusedSimpArgs false
set_option linter.unusedVariables false
namespace Go.Proofs.Yticfmhmkgcdhgaa.Crc
open Go.Proofs.Yticfmhmkgcdhgaa
section
variable {W M P p : Nat}
theorem Pm.nxt_split (h : Pm W M P p) (s x : Nat) (hs : s < M) (hx : x < 256) : nxt M P (2 ^ (W - 8)) s x = it (L M P) 8 s ^^^ nxt M P (2 ^ (W - 8)) 0 x := by
  have hb : x * 2 ^ (W - 8) < M := by rw [h.K]; exact Nat.mul_lt_mul_of_pos_right hx (Nat.two_pow_pos _)
  rw [h.nxt_eq s x hs hx, h.nxt_eq 0 x (by have := h.pos; omega) hx, h.it_xor 8 _ _ hs hb, Nat.zero_xor]
/-- The sum of two texts. -/
theorem Pm.join (h : Pm W M P p) (l : List UInt8) : ∀ s, s < M → crc M P (2 ^ (W - 8)) s l = it (L M P) (8 * l.length) s ^^^ crc M P (2 ^ (W - 8)) 0 l := by
  have hp := h.pos
  induction l with
  | nil => intro s hs; simp [crc, it]
  | cons x l ih =>
    intro s hs
    have hx : x.toNat < 256 := by have := x.toNat_lt; omega
    have h0 := h.nxt_lt 0 x.toNat (by omega) hx
    show crc M P _ (nxt M P _ s x.toNat) l = _ ^^^ crc M P _ (nxt M P _ 0 x.toNat) l
    rw [ih _ (h.nxt_lt s _ hs hx), ih _ h0, h.nxt_split s _ hs hx, h.it_xor _ _ _ (h.it_lt 8 s hs) h0, Nat.xor_assoc, ← it_add]
    congr 1
theorem Pm.seal (h : Pm W M P p) (s x : Nat) (hs : s < M) (hx : x < 256) (e : s = x * 2 ^ (W - 8)) : nxt M P (2 ^ (W - 8)) s x = 0 := by
  have h0 : it (L M P) 8 0 = 0 := by
    have hp := h.pos
    have := it_low (M := M) (P := P) 8 0 (by rw [Nat.zero_mul]; exact Nat.lt_of_lt_of_le (by decide) hp)
    rw [this, Nat.zero_mul]
  rw [h.nxt_eq s x hs hx, ← e, Nat.xor_self, h0]
theorem Pm.seal2 (h : Pm W M P p) (hK : 2 ^ (W - 8) = 256) (s : Nat) (hs : s < M) : nxt M P (2 ^ (W - 8)) (nxt M P (2 ^ (W - 8)) s (s / 256)) (s % 256) = 0 := by
  have hM := h.K
  rw [hK] at hM
  have e : nxt M P (2 ^ (W - 8)) s (s / 256) = (s % 256) * 2 ^ (W - 8) := by
    rw [h.nxt_eq s _ hs (by omega)]
    have h1 := xor_add 8 (s / 256) (s % 256) (Nat.mod_lt _ (by decide))
    have h2 : 2 ^ 8 * (s / 256) + s % 256 = s := Nat.div_add_mod s 256
    rw [h2] at h1
    have h3 : s ^^^ (s / 256 * 2 ^ (W - 8)) = s % 256 := by
      conv => lhs; lhs; rw [h1]
      rw [hK, show (2 : Nat) ^ 8 = 256 from rfl, Nat.mul_comm (s / 256), Nat.xor_comm (256 * (s / 256)), Nat.xor_assoc, Nat.xor_self, Nat.xor_zero]
    rw [h3, it_low 8 _ (by omega), hK]
  rw [e]
  exact h.seal _ _ (by rw [hK]; omega) (by omega) rfl
end
end Go.Proofs.Yticfmhmkgcdhgaa.Crc
