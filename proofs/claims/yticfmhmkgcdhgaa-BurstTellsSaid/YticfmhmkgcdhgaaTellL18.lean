/-
  jetsamref18.All: the plain part.
-/
import Derived.Test.YticfmhmkgcdhgaaFindL18
namespace Go.Proofs.Yticfmhmkgcdhgaa
open Crc (burstB dmg bl bk bits8 bitsOf bits8_le bitsOf_le)

/-- What has been found at the ends so far. -/
def hB (N C : Nat) (most : Int) (k : Nat) : List B3 := (hits N C most k).map (·.1)
/-- What has been found, at this end too, ahead of a width and a pattern. -/
def hW (N C : Nat) (most : Int) (k w p : Nat) : List B3 :=
  hB N C most k ++ if hitC N C most k ∧ (bl (sumAt C k) < w ∨ (bl (sumAt C k) = w ∧ sumAt C k < p)) then [⟨N - k - bl (sumAt C k), bl (sumAt C k), sumAt C k⟩] else []
theorem hits_none (N C : Nat) (most : Int) (h : most < 1) : ∀ k, hits N C most k = []
  | 0 => rfl
  | k + 1 => by
    rw [hits, hits_none N C most h k]
    unfold hit
    rw [dif_neg]
    · rfl
    · rintro ⟨h', -⟩
      have h1 := h'.1
      have := Crc.bl_pos (sumAt C k) (by intro e; rw [e] at h1; omega)
      have := h'.2.1
      omega
theorem allB_hB (bs : List UInt8) (most : Int) (h16 : most ≤ 16) (hC : crc16 0 bs ≠ 0) : allB bs most = hB (8 * bs.length) (crc16 0 bs) most (8 * bs.length) := by
  unfold allB allH hB
  split
  · rw [hits_none _ _ _ (by omega)]
  · rfl
theorem hW_start (N C : Nat) (most : Int) (k : Nat) : hW N C most k 1 0 = hB N C most k := by
  unfold hW
  rw [if_neg, List.append_nil]
  rintro ⟨h, h2⟩
  have h1 := h.1
  have := Crc.bl_pos (sumAt C k) (by intro e; rw [e] at h1; omega)
  omega
theorem hW_end (N C : Nat) (most : Int) (k w : Nat) (hk : k < N) (hw : (w : Int) > most ∨ w > N - k) : hW N C most k w 0 = hB N C most (k + 1) := by
  unfold hW hB
  rw [hits, List.map_append]
  by_cases h : hitC N C most k
  · have h2 := h.2.1
    have h3 := h.2.2.1
    rw [if_pos ⟨h, .inl (by omega)⟩, hit_pos N C most k h hk]
  · rw [if_neg (fun h' => h h'.1), hit_neg N C most k h]
theorem hW_width (N C : Nat) (most : Int) (k w : Nat) (hw : 1 ≤ w) : hW N C most k w (2 ^ (w - 1)) = hW N C most k w 0 := by
  unfold hW
  congr 2
  apply propext
  constructor
  · rintro ⟨h, h2 | ⟨h2, h3⟩⟩
    · exact ⟨h, .inl h2⟩
    · exfalso
      have h1 := h.1
      have := (Crc.bl_spec (sumAt C k) (by intro e; rw [e] at h1; omega)).1
      rw [h2] at this
      omega
  · rintro ⟨h, h2 | ⟨h2, h3⟩⟩
    · exact ⟨h, .inl h2⟩
    · omega
theorem hW_next (N C : Nat) (most : Int) (k w : Nat) : hW N C most k w (2 ^ w) = hW N C most k (w + 1) 0 := by
  unfold hW
  congr 2
  apply propext
  constructor
  · rintro ⟨h, h2 | ⟨h2, h3⟩⟩
    · exact ⟨h, .inl (by omega)⟩
    · exact ⟨h, .inl (by omega)⟩
  · rintro ⟨h, h2 | ⟨h2, h3⟩⟩
    · rcases Nat.lt_or_ge (bl (sumAt C k)) w with h4 | h4
      · exact ⟨h, .inl h4⟩
      · have h5 : bl (sumAt C k) = w := by omega
        have h1 := h.1
        have := (Crc.bl_spec (sumAt C k) (by intro e; rw [e] at h1; omega)).2
        rw [h5] at this
        exact ⟨h, .inr ⟨h5, this⟩⟩
    · omega
/-- A pattern that is the sum. -/
theorem hW_yes (N C : Nat) (most : Int) (k w p : Nat) (hodd : p % 2 = 1) (hl : 2 ^ (w - 1) ≤ p) (hh : p < 2 ^ w) (h1 : 1 ≤ w) (hm : (w : Int) ≤ most) (hk : w ≤ N - k) (hp : p < 65536) (hs : sumAt C k = p) :
    hW N C most k w (p + 1) = hW N C most k w p ++ [⟨N - k - w, w, p⟩] := by
  have hb : bl (sumAt C k) = w := by rw [hs]; exact Crc.bl_of p w h1 hl hh
  have hc : hitC N C most k := by
    unfold hitC
    rw [hb, hs]
    exact ⟨hodd, hm, hk, hp⟩
  unfold hW
  rw [if_pos ⟨hc, .inr ⟨hb, by omega⟩⟩, if_neg (by rintro ⟨-, h | ⟨-, h⟩⟩ <;> omega), hb, hs, List.append_nil]
theorem hW_no (N C : Nat) (most : Int) (k w p : Nat) (hs : p % 2 = 0 ∨ sumAt C k ≠ p) : hW N C most k w (p + 1) = hW N C most k w p := by
  unfold hW
  congr 2
  apply propext
  constructor
  · rintro ⟨h, h2 | ⟨h2, h3⟩⟩
    · exact ⟨h, .inl h2⟩
    · refine ⟨h, .inr ⟨h2, ?_⟩⟩
      have h1 := h.1
      rcases hs with h4 | h4
      · by_cases h5 : sumAt C k = p
        · rw [h5] at h1; omega
        · omega
      · omega
  · rintro ⟨h, h2 | ⟨h2, h3⟩⟩
    · exact ⟨h, .inl h2⟩
    · exact ⟨h, .inr ⟨h2, by omega⟩⟩
end Go.Proofs.Yticfmhmkgcdhgaa
