/-
  Plain laws of bursts: the sum one bit back; which burst makes a sum 0.
-/
import Derived.Test.YticfmhmkgcdhgaaBo6
set_option linter.unusedSimpArgs false
set_option linter.unusedVariables false
namespace Go.Proofs.Yticfmhmkgcdhgaa.Crc
open Go.Proofs.Yticfmhmkgcdhgaa

/-- A sum one bit ahead. -/
def bk (s : Nat) : Nat := if s % 2 = 1 then (s ^^^ 98309) / 2 else s / 2
abbrev L16 : Nat → Nat := L 65536 98309
theorem xor_P (s : Nat) (hs : s < 65536) : s ^^^ 98309 = 65536 + (s ^^^ 32773) := by
  have h1 : (98309 : Nat) = 65536 ^^^ 32773 := by decide
  have h2 : s ^^^ 32773 < 65536 := Nat.xor_lt_two_pow (n := 16) hs (by decide)
  rw [h1, ← Nat.xor_assoc, Nat.xor_comm s 65536, Nat.xor_assoc, p16.add_xor h2]
theorem bk_lt (s : Nat) (hs : s < 65536) : bk s < 65536 := by
  unfold bk
  split
  · rw [xor_P s hs]
    have h2 : s ^^^ 32773 < 65536 := Nat.xor_lt_two_pow (n := 16) hs (by decide)
    omega
  · omega
theorem par_xor (a b : Nat) : (a ^^^ b) % 2 = (a + b) % 2 := by
  have h1 := Nat.testBit_xor a b 0
  simp only [Nat.testBit_zero] at h1
  have ha := Nat.mod_two_eq_zero_or_one a
  have hb := Nat.mod_two_eq_zero_or_one b
  have hc := Nat.mod_two_eq_zero_or_one (a ^^^ b)
  rcases ha with ha | ha <;> rcases hb with hb | hb <;> rcases hc with hc | hc <;> simp [ha, hb, hc] at h1 <;> omega
theorem bk_L (s : Nat) (hs : s < 65536) : bk (L16 s) = s := by
  unfold L16 L
  split
  · have h1 : ((2 * s) ^^^ 98309) % 2 = 1 := by rw [par_xor]; omega
    rw [bk, if_pos h1, Nat.xor_assoc, Nat.xor_self, Nat.xor_zero]
    omega
  · rw [bk, if_neg (by omega)]; omega
theorem L_bk (s : Nat) (hs : s < 65536) : L16 (bk s) = s := by
  unfold bk
  split
  · rename_i h
    have h1 : (s ^^^ 98309) % 2 = 0 := by rw [par_xor]; omega
    have h2 := xor_P s hs
    have h3 : 2 * ((s ^^^ 98309) / 2) = s ^^^ 98309 := by omega
    unfold L16 L
    rw [h3, if_pos (by omega), Nat.xor_assoc, Nat.xor_self, Nat.xor_zero]
  · rename_i h
    unfold L16 L
    rw [if_neg (by omega)]; omega
theorem itb_lt (k s : Nat) (hs : s < 65536) : it bk k s < 65536 := Yticfmhmkgcdhgaa.it_lt (fun s hs => bk_lt s hs) k s hs
theorem it_succ' (f : Nat → Nat) (k s : Nat) : it f (k + 1) s = it f k (f s) := by
  rw [it_add f k 1 s]; rfl
theorem itb_L (k : Nat) : ∀ s, s < 65536 → it bk k (it L16 k s) = s := by
  induction k with
  | zero => intro s _; rfl
  | succ k ih =>
    intro s hs
    rw [it_succ' bk]
    show it bk k (bk (L16 (it L16 k s))) = s
    rw [bk_L _ (p16.it_lt k s hs), ih s hs]
theorem L_itb (k : Nat) : ∀ s, s < 65536 → it L16 k (it bk k s) = s := by
  induction k with
  | zero => intro s _; rfl
  | succ k ih =>
    intro s hs
    rw [it_succ' L16]
    show it L16 k (L16 (bk (it bk k s))) = s
    rw [L_bk _ (itb_lt k s hs), ih s hs]
theorem xor_zero_iff (a b : Nat) : a ^^^ b = 0 ↔ a = b := by
  constructor
  · intro h
    have := congrArg (· ^^^ b) h
    simpa [Nat.xor_assoc] using this
  · rintro rfl; exact Nat.xor_self _
/-- Which pattern k bits ahead of the end makes a sum 0. -/
theorem kills (C p k : Nat) (hC : C < 65536) (hp : p < 65536) : C ^^^ it L16 k p = 0 ↔ it bk k C = p := by
  rw [xor_zero_iff]
  constructor
  · rintro rfl; exact itb_L k p hp
  · rintro rfl; exact (L_itb k C hC).symm

/-- How many bits a number has. -/
def bl (s : Nat) : Nat := if s = 0 then 0 else Nat.log2 s + 1
theorem bl_spec (s : Nat) (h : s ≠ 0) : 2 ^ (bl s - 1) ≤ s ∧ s < 2 ^ bl s := by
  rw [bl, if_neg h, Nat.add_sub_cancel]
  exact ⟨Nat.log2_self_le h, Nat.lt_log2_self⟩
theorem bl_of (s n : Nat) (hn : 0 < n) (h1 : 2 ^ (n - 1) ≤ s) (h2 : s < 2 ^ n) : bl s = n := by
  have h0 : s ≠ 0 := by have := Nat.two_pow_pos (n - 1); omega
  obtain ⟨a, b⟩ := bl_spec s h0
  have hb : 0 < bl s := by rw [bl, if_neg h0]; omega
  rcases Nat.lt_trichotomy (bl s) n with h | h | h
  · have := Nat.pow_le_pow_right (n := 2) (by omega) (show bl s ≤ n - 1 by omega)
    omega
  · exact h
  · have := Nat.pow_le_pow_right (n := 2) (by omega) (show n ≤ bl s - 1 by omega)
    omega
theorem bl_le (s n : Nat) (h : s < 2 ^ n) : bl s ≤ n := by
  rcases Nat.lt_or_ge n (bl s) with h1 | h1
  · have h0 : s ≠ 0 := by intro e; subst e; simp [bl] at h1
    obtain ⟨a, -⟩ := bl_spec s h0
    have := Nat.pow_le_pow_right (n := 2) (by omega) (show n ≤ bl s - 1 by omega)
    omega
  · exact h1
theorem bl_pos (s : Nat) (h : s ≠ 0) : 0 < bl s := by rw [bl, if_neg h]; omega
/-- Bytes with a burst. -/
def burstB (l : List UInt8) (at_ n p : Nat) : List UInt8 := dmg l at_ (p * 2 ^ (16 - n)) n
theorem burstB_length (l : List UInt8) (at_ n p : Nat) : (burstB l at_ n p).length = l.length := dmg_length _ _ _ _
/-- The sum of bytes with a burst. -/
theorem crc_burst (l : List UInt8) (at_ n p : Nat) (hn : n ≤ 16) (hp : p < 2 ^ n) (hat : at_ + n ≤ 8 * l.length) :
    crc 65536 98309 256 0 (burstB l at_ n p) = crc 65536 98309 256 0 l ^^^ it L16 (8 * l.length - (at_ + n) + 16) p := by
  have h := p16.crc_dmg l at_ (p * 2 ^ (16 - n)) n hn hn hat
  rw [Nat.mul_div_cancel _ (Nat.two_pow_pos _), Nat.mod_eq_of_lt hp] at h
  exact h
end Go.Proofs.Yticfmhmkgcdhgaa.Crc
