/-
  jetsamref18.May and Turn; a burst's bits.
-/
import Derived.Test.YticfmhmkgcdhgaaTwice18
namespace Go.Proofs.Yticfmhmkgcdhgaa
open Go.RowKit
open Crc (burstB dmg bl bk bits8 bitsOf bits8_le bitsOf_le)

theorem bits8_flip : ∀ (x : Fin 256) (k : Fin 8), bits8 (x.val ^^^ (128 / 2 ^ k.val)) 8 = (bits8 x.val 8).set k.val (((bits8 x.val 8).getD k.val 0 + 1) % 2) := by decide +kernel
theorem flip_cons_lt (x : UInt8) (L : List UInt8) (k : Nat) (hk : k < 8) : Crc.flip (x :: L) k = (x ^^^ UInt8.ofNat (128 / 2 ^ k)) :: L := by
  unfold Crc.flip
  rw [Nat.div_eq_of_lt hk, Nat.mod_eq_of_lt hk]; rfl
theorem flip_cons_ge (x : UInt8) (L : List UInt8) (k : Nat) (hk : 8 ≤ k) : Crc.flip (x :: L) k = x :: Crc.flip L (k - 8) := by
  unfold Crc.flip
  rw [show k / 8 = (k - 8) / 8 + 1 from by omega, show k % 8 = (k - 8) % 8 from by omega]; rfl
theorem bitsOf_cons (x : UInt8) (L : List UInt8) : bitsOf (x :: L) = bits8 x.toNat 8 ++ bitsOf L := rfl
theorem bitsOf_flip (L : List UInt8) : ∀ k, k < 8 * L.length → bitsOf (Crc.flip L k) = (bitsOf L).set k (((bitsOf L).getD k 0 + 1) % 2) := by
  induction L with
  | nil => intro k hk; simp at hk
  | cons x L ih =>
    intro k hk
    have h8 : (bits8 x.toNat 8).length = 8 := bits8_length _ _
    rcases Nat.lt_or_ge k 8 with h | h
    · rw [flip_cons_lt x L k h, bitsOf_cons, bitsOf_cons, List.set_append_left _ _ (by omega)]
      congr 1
      have h1 := bits8_flip ⟨x.toNat, by have := x.toNat_lt; omega⟩ ⟨k, h⟩
      have h128 : 128 / 2 ^ k < 256 := Nat.lt_of_le_of_lt (Nat.div_le_self _ _) (by decide)
      rw [UInt8.toNat_xor, UInt8.toNat_ofNat', Nat.mod_eq_of_lt h128]
      simp only [List.getD_eq_getElem?_getD] at h1 ⊢
      rw [List.getElem?_append_left (by omega)]
      exact h1
    · have e : (bits8 x.toNat 8 ++ bitsOf L).getD k 0 = (bitsOf L).getD (k - 8) 0 := by
        simp only [List.getD_eq_getElem?_getD]
        rw [List.getElem?_append_right (by omega), h8]
      rw [flip_cons_ge x L k h, bitsOf_cons, bitsOf_cons, e, List.set_append_right _ _ (by omega), h8, ih (k - 8) (by simp at hk; omega)]
/-- Bits behind so many rounds of a burst. -/
def rT (b : List Nat) (a n p : Nat) : Nat → List Nat
  | 0 => b
  | i + 1 => (rT b a n p i).set (a + i) (((rT b a n p i).getD (a + i) 0 + p / 2 ^ (n - 1 - i)) % 2)
theorem rT_length (b : List Nat) (a n p : Nat) : ∀ i, (rT b a n p i).length = b.length
  | 0 => rfl
  | i + 1 => by rw [rT, List.length_set, rT_length b a n p i]
theorem rT_le (b : List Nat) (hb : ∀ x ∈ b, x ≤ 1) (a n p : Nat) : ∀ i, ∀ x ∈ rT b a n p i, x ≤ 1
  | 0 => hb
  | i + 1 => fun x hx => by
    rcases List.mem_or_eq_of_mem_set hx with h | rfl
    · exact rT_le b hb a n p i x h
    · omega
theorem rT_bits (l : List UInt8) (a n p : Nat) (hn : n ≤ 16) (hat : a + n ≤ 8 * l.length) : ∀ i, i ≤ n → rT (bitsOf l) a n p i = bitsOf (dmg l a (p * 2 ^ (16 - n)) i)
  | 0, _ => rfl
  | i + 1, hi => by
    rw [rT, rT_bits l a n p hn hat i (by omega)]
    have hlen := Crc.dmg_length l a (p * 2 ^ (16 - n)) i
    have e : p * 2 ^ (16 - n) / 2 ^ (15 - i) = p / 2 ^ (n - 1 - i) := by rw [show 15 - i = (16 - n) + (n - 1 - i) from by omega, pow_shift]
    by_cases h : p / 2 ^ (n - 1 - i) % 2 = 1
    · have e1 : dmg l a (p * 2 ^ (16 - n)) (i + 1) = Crc.flip (dmg l a (p * 2 ^ (16 - n)) i) (a + i) := if_pos ⟨by rw [e]; exact h, by omega⟩
      rw [e1, bitsOf_flip _ _ (by omega)]
      congr 1
      omega
    · have e1 : dmg l a (p * 2 ^ (16 - n)) (i + 1) = dmg l a (p * 2 ^ (16 - n)) i := if_neg (fun h' => h (by rw [e] at h'; exact h'.1))
      rw [e1]
      have hk : a + i < (bitsOf (dmg l a (p * 2 ^ (16 - n)) i)).length := by rw [bitsOf_length]; omega
      have hle := bitsOf_le (dmg l a (p * 2 ^ (16 - n)) i) _ (List.getElem_mem hk)
      have : ((bitsOf (dmg l a (p * 2 ^ (16 - n)) i)).getD (a + i) 0 + p / 2 ^ (n - 1 - i)) % 2 = (bitsOf (dmg l a (p * 2 ^ (16 - n)) i))[a + i] := by
        rw [List.getD_eq_getElem?_getD, List.getElem?_eq_getElem hk]
        show (_ + _) % 2 = _
        simp only [Option.getD_some]
        omega
      rw [this, List.set_getElem_self]
theorem rT_burst (l : List UInt8) (a n p : Nat) (hn : n ≤ 16) (hat : a + n ≤ 8 * l.length) : rT (bitsOf l) a n p n = bitsOf (burstB l a n p) := rT_bits l a n p hn hat n (Nat.le_refl _)
/-- Which bursts may be, by their pattern. -/
theorem ck_pat (a p : Int) (n m : Nat) (h1 : 1 ≤ n) (h16 : n ≤ 16) (ha : 0 ≤ a) (hN : a ≤ 8 * (m : Int) - n) : ckE a n p m = 0 ↔ (2 ^ (n - 1) : Nat) ≤ p ∧ p < (2 ^ n : Nat) ∧ p % 2 = 1 := by
  obtain ⟨lo, hlo⟩ : ∃ lo : Nat, 2 ^ (n - 1) = lo := ⟨_, rfl⟩
  obtain ⟨hi, hhi⟩ : ∃ hi : Nat, 2 ^ n = hi := ⟨_, rfl⟩
  rw [hlo, hhi]
  constructor
  · intro h
    unfold ckE at h
    split at h
    · simp at h
    · rename_i hh
      simp only [not_or] at hh
      obtain ⟨_, _, h3, h4, h5, _, _⟩ := hh
      have hb : bl p.toNat = n := by omega
      have hp0 : p.toNat ≠ 0 := by intro e; rw [e] at hb; simp [bl] at hb; omega
      have hs := Crc.bl_spec p.toNat hp0
      rw [hb, hlo, hhi] at hs
      refine ⟨by omega, by omega, by omega⟩
  · rintro ⟨h2, h3, h4⟩
    have hb := Crc.bl_of p.toNat n h1 (by rw [hlo]; omega) (by rw [hhi]; omega)
    unfold ckE
    rw [if_neg]
    have := Nat.two_pow_pos (n - 1)
    simp only [not_or, hb]
    refine ⟨by omega, by omega, by omega, by simp, by omega, by omega, by omega⟩
end Go.Proofs.Yticfmhmkgcdhgaa
