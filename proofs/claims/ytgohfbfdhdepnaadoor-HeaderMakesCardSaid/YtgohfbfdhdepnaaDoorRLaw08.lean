/-
  The document's answer on which headers may be is the program's: the plain law.
-/
import Derived.Test.YtgohfbfdhdepnaaDoorRTab08
import Derived.Test.YtgohfbfdhdepnaaDoorShL08
namespace Go.Proofs.YtgohfbfdhdepnaaDoor
open Go.RowKit

theorem ofT_out {L : List Int} {c : Int} (h : c < 0 ∨ (L.length : Int) ≤ c) : ofT L c = -1 := if_pos h
theorem ofT_at {L : List Int} {c : Int} (h0 : 0 ≤ c) (h : c < L.length) : ofT L c = L.getD c.toNat 0 := if_neg (by omega)
theorem blk_lt (c : Int) : ofT refBlk c < 0 ↔ ofT blkL c = -1 := by
  by_cases hc : c < 0 ∨ (16 : Int) ≤ c
  · rw [ofT_out (L := refBlk) hc, ofT_out (L := blkL) hc]; decide
  · obtain ⟨i, rfl⟩ : ∃ i : Nat, c = i := ⟨c.toNat, by omega⟩
    have hk : ∀ i : Fin 16, (ofT refBlk i.val < 0 ↔ ofT blkL i.val = -1) := by decide +kernel
    exact hk ⟨i, by omega⟩
theorem dep_lt (c : Int) : ofT depL c < 0 ↔ ofT depL c = -1 := by
  by_cases hc : c < 0 ∨ (8 : Int) ≤ c
  · rw [ofT_out (L := depL) hc]; decide
  · obtain ⟨i, rfl⟩ : ∃ i : Nat, c = i := ⟨c.toNat, by omega⟩
    have hk : ∀ i : Fin 8, (ofT depL i.val < 0 ↔ ofT depL i.val = -1) := by decide +kernel
    exact hk ⟨i, by omega⟩
theorem rBad_code (h : Hd) : rBad h = true ↔ codE h ≠ 0 := by
  have hm : chE h.m = 0 ↔ ¬ (h.m < 0 ∨ 10 < h.m) := by
    unfold chE; split
    · rename_i k; simp [k]
    · rename_i k; simp [k]
  constructor
  · intro hb hc
    obtain ⟨k1, k2, k3, k4⟩ := codE_zero hc
    unfold rBad at hb
    simp only [Bool.or_eq_true, decide_eq_true_eq, beq_iff_eq] at hb
    rcases hb with (((hb | hb) | hb) | hb) | hb
    · exact k1 ((blk_lt _).1 hb)
    · exact k2 hb
    · exact (hm.1 k3) (.inl hb)
    · exact (hm.1 k3) (.inr hb)
    · exact k4 ((dep_lt _).1 hb)
  · intro hc
    cases hb : rBad h with
    | true => rfl
    | false =>
      exfalso
      apply hc
      unfold rBad at hb
      simp only [Bool.or_eq_false_iff, decide_eq_false_iff_not, beq_eq_false_iff_ne] at hb
      obtain ⟨⟨⟨⟨k1, k2⟩, k3⟩, k4⟩, k5⟩ := hb
      have e1 : (ofT blkL h.bc == -1) = false := by rw [beq_eq_false_iff_ne]; exact fun k => k1 ((blk_lt _).2 k)
      have e2 : (ofT ratL h.rc == -1) = false := by rw [beq_eq_false_iff_ne]; exact k2
      have e3 : (ofT depL h.dc == -1) = false := by rw [beq_eq_false_iff_ne]; exact fun k => k5 ((dep_lt _).2 k)
      unfold codE
      rw [e1, e2, e3, hm.2 (by omega)]
      rfl
theorem rB_eq (bc b : Int) (h0 : 0 ≤ bc) (h16 : bc < 16) : rB bc b = bFits bc b := by
  unfold rB bFits
  by_cases h6 : bc = 6
  · subst h6; rfl
  · rw [if_neg h6, if_neg h6]
    by_cases h7 : bc = 7
    · subst h7; rfl
    · rw [if_neg h7, if_neg h7, ofT_at (L := refBlk) h0 h16]
      obtain ⟨i, rfl⟩ : ∃ i : Nat, bc = i := ⟨bc.toNat, by omega⟩
      have hk : ∀ i : Fin 16, i.val ≠ 6 → i.val ≠ 7 → refBlk.getD i.val 0 = blkL.getD i.val 0 := by decide +kernel
      rw [Int.toNat_natCast, hk ⟨i, by omega⟩ (by show i ≠ 6; omega) (by show i ≠ 7; omega)]
theorem rR_eq (rc r : Int) (h0 : 0 ≤ rc) (h16 : rc < 16) : rR rc r = rFits rc r := by
  unfold rR rFits
  rw [ofT_at (L := ratL) h0 h16]
  by_cases h2 : ratL.getD rc.toNat 0 = -2
  · rw [if_pos h2, if_pos h2]
    refine decide_eq_decide.2 ?_
    rcases rat_behind rc.toNat (by omega) h2 with h | h | h
    · obtain rfl : rc = 12 := by omega
      show (0 ≤ r ∧ r ≤ 1000 * 255 ∧ r % 1000 = 0) ↔ (0 ≤ r ∧ r % 1000 = 0 ∧ r / 1000 < 256)
      omega
    · obtain rfl : rc = 13 := by omega
      show (0 ≤ r ∧ r ≤ 1 * 65535 ∧ r % 1 = 0) ↔ (0 ≤ r ∧ r % 1 = 0 ∧ r / 1 < 65536)
      omega
    · obtain rfl : rc = 14 := by omega
      show (0 ≤ r ∧ r ≤ 10 * 65535 ∧ r % 10 = 0) ↔ (0 ≤ r ∧ r % 10 = 0 ∧ r / 10 < 65536)
      omega
  · rw [if_neg h2, if_neg h2]
theorem chk_ref (h : Hd) : rE h = chkE h := by
  by_cases hc : codE h = 0
  · have hb : ¬ rBad h = true := fun k => (rBad_code h).1 k hc
    obtain ⟨k1, k2, k3, k4⟩ := codE_zero hc
    obtain ⟨a1, a2, -⟩ := ofT_in k1
    obtain ⟨b1, b2, -⟩ := ofT_in k2
    obtain ⟨c1, c2, c3⟩ := ofT_in k4
    rw [rE, if_neg hb, chkE, if_pos hc, rB_eq _ _ a1 a2, rR_eq _ _ b1 b2, c3]
    generalize (decide (h.n < 0) || decide (h.n ≥ mostV h.V)) = p
    generalize (!bFits h.bc h.b || !rFits h.rc h.r || h.d != depL.getD h.dc.toNat 0) = q
    cases p <;> cases q <;> rfl
  · rw [rE, if_pos ((rBad_code h).2 hc), chkE, if_neg hc]
    rcases codE_or h with k | k
    · exact absurd k hc
    · exact k.symm
end Go.Proofs.YtgohfbfdhdepnaaDoor
