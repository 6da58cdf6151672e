/-
  Plain law: damage of no more than W bits in a row turns the sum.
-/
import Derived.Test.YticfmhmkgcdhgaaBo3
set_option linter.unusedSimpArgs false
set_option linter.unusedVariables false
namespace Go.Proofs.Yticfmhmkgcdhgaa.Crc
open Go.Proofs.Yticfmhmkgcdhgaa

/-- Bit k of bytes, turned. -/
def flip (l : List UInt8) (k : Nat) : List UInt8 := l.set (k / 8) ((l.getD (k / 8) 0) ^^^ UInt8.ofNat (128 / 2 ^ (k % 8)))
theorem flip_length (l : List UInt8) (k : Nat) : (flip l k).length = l.length := by simp [flip]
/-- Bytes behind so many rounds of damage: 16 bits from a place on. -/
def dmg (l : List UInt8) (at_ d : Nat) : Nat → List UInt8
  | 0 => l
  | i + 1 => if d / 2 ^ (15 - i) % 2 = 1 ∧ at_ + i < 8 * l.length then flip (dmg l at_ d i) (at_ + i) else dmg l at_ d i
theorem dmg_length (l : List UInt8) (at_ d i : Nat) : (dmg l at_ d i).length = l.length := by
  induction i with
  | zero => rfl
  | succ i ih => unfold dmg; split <;> simp [flip_length, ih]
def turned (l : List UInt8) (at_ d : Nat) : Nat → Bool
  | 0 => false
  | i + 1 => if d / 2 ^ (15 - i) % 2 = 1 ∧ at_ + i < 8 * l.length then true else turned l at_ d i
def wide (l : List UInt8) (at_ d : Nat) : Nat → Bool
  | 0 => false
  | i + 1 => if d / 2 ^ (15 - i) % 2 = 1 ∧ at_ + i < 8 * l.length then wide l at_ d i || decide (8 ≤ i) else wide l at_ d i

section
variable {W M P p : Nat}
theorem Pm.it_zero (h : Pm W M P p) (k : Nat) : it (L M P) k 0 = 0 := by
  induction k with
  | zero => rfl
  | succ k ih =>
    show L M P (it (L M P) k 0) = 0
    rw [ih]
    have := h.pos
    unfold L
    rw [if_neg (by omega)]
/-- The step is one to one. (p is odd.) -/
theorem Pm.L_ne (h : Pm W M P p) (ho : p % 2 = 1) (s : Nat) (hs : s < M) (h0 : s ≠ 0) : L M P s ≠ 0 := by
  unfold L
  split
  · intro e
    have : (2 * s) ^^^ P = 0 := e
    have h1 : 2 * s = P := by
      have := congrArg (· ^^^ P) this
      simpa [Nat.xor_assoc] using this
    have hM2 : M % 2 = 0 := by
      rw [h.m]
      have : W = (W - 1) + 1 := by have := h.w; omega
      rw [this, Nat.pow_succ]; omega
    have := h.s
    omega
  · omega
theorem Pm.it_ne (h : Pm W M P p) (ho : p % 2 = 1) (k s : Nat) (hs : s < M) (h0 : s ≠ 0) : it (L M P) k s ≠ 0 := by
  induction k with
  | zero => exact h0
  | succ k ih => exact h.L_ne ho _ (h.it_lt k s hs) ih
theorem Pm.nxt_xor (h : Pm W M P p) (s x y : Nat) (hs : s < M) (hx : x < 256) (hy : y < 256) : nxt M P (2 ^ (W - 8)) s (x ^^^ y) = nxt M P (2 ^ (W - 8)) s x ^^^ it (L M P) W y := by
  have hxy : x ^^^ y < 256 := Nat.xor_lt_two_pow (n := 8) hx hy
  have hb : ∀ z, z < 256 → z * 2 ^ (W - 8) < M := fun z hz => by rw [h.K]; exact Nat.mul_lt_mul_of_pos_right hz (Nat.two_pow_pos _)
  rw [h.nxt_eq s _ hs hxy, h.nxt_eq s x hs hx, mul_pow_xor, ← Nat.xor_assoc, h.it_xor 8 _ _ (h.xor_lt hs (hb x hx)) (hb y hy), ← it_low (M := M) (P := P) (W - 8) y (hb y hy), ← it_add]
  congr 2
  have := h.w
  omega
/-- One byte turned. -/
theorem Pm.crc_set (h : Pm W M P p) (y : UInt8) : ∀ (l : List UInt8) (j s : Nat), s < M → j < l.length →
    crc M P (2 ^ (W - 8)) s (l.set j (l.getD j 0 ^^^ y)) = crc M P (2 ^ (W - 8)) s l ^^^ it (L M P) (8 * (l.length - 1 - j) + W) y.toNat
  | [], j, s, _, hj => by simp at hj
  | x :: l, 0, s, hs, _ => by
    have hx : x.toNat < 256 := by have := x.toNat_lt; omega
    have hy : y.toNat < 256 := by have := y.toNat_lt; omega
    have hp := h.pos
    show crc M P _ (nxt M P _ s (x ^^^ y).toNat) l = crc M P _ (nxt M P _ s x.toNat) l ^^^ _
    rw [UInt8.toNat_xor, h.nxt_xor s _ _ hs hx hy, h.join l _ (h.xor_lt (h.nxt_lt s _ hs hx) (h.it_lt W _ (by omega))), h.join l (nxt M P (2 ^ (W - 8)) s x.toNat) (h.nxt_lt s _ hs hx),
      h.it_xor _ _ _ (h.nxt_lt s _ hs hx) (h.it_lt W _ (by omega)), ← it_add]
    simp only [List.length_cons, Nat.add_sub_cancel, Nat.sub_zero]
    rw [Nat.xor_assoc, Nat.xor_assoc, Nat.xor_comm (crc M P (2 ^ (W - 8)) 0 l)]
  | x :: l, j + 1, s, hs, hj => by
    have hx : x.toNat < 256 := by have := x.toNat_lt; omega
    show crc M P _ (nxt M P _ s x.toNat) (l.set j (l.getD j 0 ^^^ y)) = crc M P _ (nxt M P _ s x.toNat) l ^^^ _
    rw [h.crc_set y l j _ (h.nxt_lt s _ hs hx) (by simpa using hj)]
    congr 3
    simp only [List.length_cons]
    omega
theorem Pm.crc_flip (h : Pm W M P p) (l : List UInt8) (k : Nat) (hk : k < 8 * l.length) :
    crc M P (2 ^ (W - 8)) 0 (flip l k) = crc M P (2 ^ (W - 8)) 0 l ^^^ it (L M P) (8 * l.length - 1 - k + W) 1 := by
  have hp := h.pos
  have h7 : 128 / 2 ^ (k % 8) = 1 * 2 ^ (7 - k % 8) := by
    have : k % 8 = 0 ∨ k % 8 = 1 ∨ k % 8 = 2 ∨ k % 8 = 3 ∨ k % 8 = 4 ∨ k % 8 = 5 ∨ k % 8 = 6 ∨ k % 8 = 7 := by omega
    rcases this with e | e | e | e | e | e | e | e <;> rw [e] <;> decide
  have h8 : (2 : Nat) ^ (7 - k % 8) ≤ 2 ^ 7 := Nat.pow_le_pow_right (by decide) (by omega)
  unfold flip
  rw [h.crc_set _ l (k / 8) 0 (by omega) (by omega)]
  congr 1
  rw [UInt8.toNat_ofNat', h7, Nat.mod_eq_of_lt (by omega), ← it_low (M := M) (P := P) (7 - k % 8) 1 (by omega), ← it_add]
  congr 1
  omega
/-- What so many rounds of damage turn. -/
theorem Pm.crc_dmg (h : Pm W M P p) (l : List UInt8) (at_ d : Nat) : ∀ i, i ≤ W → i ≤ 16 → at_ + i ≤ 8 * l.length →
    crc M P (2 ^ (W - 8)) 0 (dmg l at_ d i) = crc M P (2 ^ (W - 8)) 0 l ^^^ it (L M P) (8 * l.length - (at_ + i) + W) (d / 2 ^ (16 - i) % 2 ^ i)
  | 0, _, _, _ => by simp [dmg, Nat.mod_one, h.it_zero]
  | i + 1, hi, h16, hat => by
    have hp := h.pos
    have ih := h.crc_dmg l at_ d i (by omega) (by omega) (by omega)
    have e1 : 16 - i = (15 - i) + 1 := by omega
    have e2 : 16 - (i + 1) = 15 - i := by omega
    have hq : d / 2 ^ (16 - i) % 2 ^ i < 2 ^ i := Nat.mod_lt _ (Nat.two_pow_pos i)
    have hM : 2 ^ (i + 1) ≤ M := by rw [h.m]; exact Nat.pow_le_pow_right (by decide) hi
    have h2i : 2 ^ (i + 1) = 2 * 2 ^ i := by rw [Nat.pow_succ]; omega
    have hsplit : d / 2 ^ (15 - i) % 2 ^ (i + 1) = 2 * (d / 2 ^ (16 - i) % 2 ^ i) + d / 2 ^ (15 - i) % 2 := by
      rw [e1, Nat.pow_succ 2 (15 - i), ← Nat.div_div_eq_div_mul, h2i, Nat.mod_mul]
      omega
    have hb : d / 2 ^ (15 - i) % 2 ≤ 1 := by omega
    have hstep : it (L M P) (8 * l.length - (at_ + i) + W) (d / 2 ^ (16 - i) % 2 ^ i) = it (L M P) (8 * l.length - (at_ + (i + 1)) + W) (2 * (d / 2 ^ (16 - i) % 2 ^ i)) := by
      have : 8 * l.length - (at_ + i) + W = (8 * l.length - (at_ + (i + 1)) + W) + 1 := by omega
      rw [this, it_add]
      congr 1
      show L M P _ = _
      unfold L
      rw [if_neg (by show ¬ M ≤ 2 * (d / 2 ^ (16 - i) % 2 ^ i); omega)]
      rfl
    rw [e2, hsplit, add_bit _ _ hb, h.it_xor _ _ _ (by omega) (by omega), ← hstep]
    unfold dmg
    by_cases c : d / 2 ^ (15 - i) % 2 = 1
    · rw [if_pos ⟨c, by omega⟩, h.crc_flip _ _ (by rw [dmg_length]; omega), ih, dmg_length, c, Nat.xor_assoc]
      congr 3
      omega
    · rw [if_neg (fun h => c h.1), ih, show d / 2 ^ (15 - i) % 2 = 0 from by omega, h.it_zero, Nat.xor_zero]
theorem stay (l : List UInt8) (at_ d i : Nat) : ∀ n, (∀ k, i ≤ k → k < i + n → ¬ (d / 2 ^ (15 - k) % 2 = 1 ∧ at_ + k < 8 * l.length)) →
    dmg l at_ d (i + n) = dmg l at_ d i ∧ turned l at_ d (i + n) = turned l at_ d i
  | 0, _ => ⟨rfl, rfl⟩
  | n + 1, h => by
    have ih := stay l at_ d i n (fun k h1 h2 => h k h1 (by omega))
    have hc := h (i + n) (by omega) (by omega)
    have h1 : dmg l at_ d (i + (n + 1)) = dmg l at_ d (i + n) := if_neg hc
    have h2 : turned l at_ d (i + (n + 1)) = turned l at_ d (i + n) := if_neg hc
    rw [h1, h2]
    exact ih
theorem turned_iff (l : List UInt8) (at_ d : Nat) : ∀ i, i ≤ 16 → at_ + i ≤ 8 * l.length → turned l at_ d i = decide (d / 2 ^ (16 - i) % 2 ^ i ≠ 0)
  | 0, _, _ => by simp [turned, Nat.mod_one]
  | i + 1, h16, hat => by
    have ih := turned_iff l at_ d i (by omega) (by omega)
    have e1 : 16 - i = (15 - i) + 1 := by omega
    have e2 : 16 - (i + 1) = 15 - i := by omega
    have h2i : 2 ^ (i + 1) = 2 * 2 ^ i := by rw [Nat.pow_succ]; omega
    have hsplit : d / 2 ^ (15 - i) % 2 ^ (i + 1) = 2 * (d / 2 ^ (16 - i) % 2 ^ i) + d / 2 ^ (15 - i) % 2 := by
      rw [e1, Nat.pow_succ 2 (15 - i), ← Nat.div_div_eq_div_mul, h2i, Nat.mod_mul]
      omega
    unfold turned
    rw [e2, hsplit]
    by_cases c : d / 2 ^ (15 - i) % 2 = 1
    · rw [if_pos ⟨c, by omega⟩]; simp; omega
    · rw [if_neg (fun h => c h.1), ih]
      congr 1
      simp
      omega
theorem wide_false (l : List UInt8) (at_ d : Nat) : ∀ i, wide l at_ d i = false → ∀ k, 8 ≤ k → k < i → ¬ (d / 2 ^ (15 - k) % 2 = 1 ∧ at_ + k < 8 * l.length)
  | 0, _, k, _, h => by omega
  | i + 1, h, k, h8, hk => by
    unfold wide at h
    split at h
    · simp at h
      by_cases e : k = i
      · omega
      · exact wide_false l at_ d i h.1 k h8 (by omega)
    · by_cases e : k = i
      · subst e; assumption
      · exact wide_false l at_ d i h k h8 (by omega)
theorem Pm.sees (h : Pm W M P p) (ho : p % 2 = 1) (l : List UInt8) (at_ d i : Nat) (hi : i ≤ W) (h16 : i ≤ 16) (hat : at_ ≤ 8 * l.length)
    (hs : ∀ k, i ≤ k → k < 16 → ¬ (d / 2 ^ (15 - k) % 2 = 1 ∧ at_ + k < 8 * l.length)) :
    (crc M P (2 ^ (W - 8)) 0 (dmg l at_ d 16) = crc M P (2 ^ (W - 8)) 0 l) ↔ turned l at_ d 16 = false := by
  have hp := h.pos
  obtain ⟨j, hj1, hj2, hj3⟩ : ∃ j, j ≤ i ∧ at_ + j ≤ 8 * l.length ∧ ∀ k, j ≤ k → k < 16 → ¬ (d / 2 ^ (15 - k) % 2 = 1 ∧ at_ + k < 8 * l.length) := by
    by_cases c : at_ + i ≤ 8 * l.length
    · exact ⟨i, Nat.le_refl _, c, hs⟩
    · exact ⟨8 * l.length - at_, by omega, by omega, fun k h1 _ h3 => by omega⟩
  have hst := stay l at_ d j (16 - j) (fun k h1 h2 => hj3 k h1 (by omega))
  rw [show j + (16 - j) = 16 from by omega] at hst
  rw [hst.1, hst.2, h.crc_dmg l at_ d j (by omega) (by omega) hj2, turned_iff l at_ d j (by omega) hj2]
  have hq : d / 2 ^ (16 - j) % 2 ^ j < 2 ^ j := Nat.mod_lt _ (Nat.two_pow_pos j)
  have hM : 2 ^ j ≤ M := by rw [h.m]; exact Nat.pow_le_pow_right (by decide) (by omega)
  by_cases c : d / 2 ^ (16 - j) % 2 ^ j = 0
  · rw [c, h.it_zero]; simp
  · have hne := h.it_ne ho (8 * l.length - (at_ + j) + W) _ (by omega) c
    constructor
    · intro e
      have : it (L M P) (8 * l.length - (at_ + j) + W) (d / 2 ^ (16 - j) % 2 ^ j) = 0 := by
        have := congrArg (crc M P (2 ^ (W - 8)) 0 l ^^^ ·) e
        simpa [← Nat.xor_assoc] using this
      exact absurd this hne
    · intro e
      simp at e
      exact absurd e c
end
end Go.Proofs.Yticfmhmkgcdhgaa.Crc
