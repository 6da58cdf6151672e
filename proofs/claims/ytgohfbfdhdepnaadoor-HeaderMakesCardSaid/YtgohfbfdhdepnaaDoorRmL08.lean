/-
  The header that the document's answer makes is the program's: the plain law.
-/
import Derived.Test.YtgohfbfdhdepnaaDoorRLaw08
namespace Go.Proofs.YtgohfbfdhdepnaaDoor
open Go.RowKit

def bcR (b : Int) : Nat → Int
  | 0 => 0
  | k + 1 => if ofT refBlk ((k + 1 : Nat) : Int) = b ∧ bcR b k = 0 then ((k + 1 : Nat) : Int) else bcR b k
def bcF (b : Int) : Int := if bcR b 15 = 0 then (if b ≤ 256 then 6 else 7) else bcR b 15
def hitR (r : Int) (c : Int) : Prop := ofT ratL c = r ∨ (12 ≤ c ∧ r % unU c = 0 ∧ r / unU c ≤ topR c)
instance (r c : Int) : Decidable (hitR r c) := by unfold hitR; infer_instance
def rcR (r : Int) : Nat → Int
  | 0 => 0
  | k + 1 => if rcR r k = 0 ∧ hitR r ((k + 1 : Nat) : Int) then ((k + 1 : Nat) : Int) else rcR r k
def dcR (d : Int) : Nat → Int
  | 0 => 0
  | k + 1 => if ofT depL ((k + 1 : Nat) : Int) = d then ((k + 1 : Nat) : Int) else dcR d k
def ddR (d : Int) : Nat → Int
  | 0 => 0
  | k + 1 => if ofT depL ((k + 1 : Nat) : Int) = d then d else ddR d k

theorem bcR_none (b : Int) (hb : 1 ≤ b) (hn : b ∉ blkL) : ∀ k, k ≤ 15 → bcR b k = 0
  | 0, _ => rfl
  | k + 1, h => by
    have hk : ∀ i : Fin 16, ofT refBlk i.val ≤ 0 ∨ ofT refBlk i.val ∈ blkL := by decide +kernel
    have h2 : ¬ (ofT refBlk ((k + 1 : Nat) : Int) = b ∧ bcR b k = 0) := by
      rintro ⟨e, -⟩
      rcases hk ⟨k + 1, by omega⟩ with h3 | h3
      · simp only at h3; omega
      · exact hn (by rw [← e]; exact h3)
    rw [bcR, if_neg h2]
    exact bcR_none b hb hn k (by omega)
theorem bc_eq (b : Int) (hb : 1 ≤ b) : bcF b = bcOf b := by
  by_cases hn : b ∈ blkL
  · have hk : ∀ x ∈ blkL, 1 ≤ x → bcF x = bcOf x := by decide +kernel
    exact hk b hn hb
  · have h1 : idxL blkL b < 0 := by
      by_cases h : idxL blkL b < 0
      · exact h
      · obtain ⟨i, e1, e2, e3⟩ := idxL_some h
        exact absurd (by rw [← e3]; exact getD_mem blkL i e2) hn
    rw [bcF, if_pos (bcR_none b hb hn 15 (by omega)), bcOf, if_pos h1]
    by_cases h : b ≤ 256
    · rw [if_pos h, decide_eq_true h]; rfl
    · rw [if_neg h, decide_eq_false h]; rfl
theorem rcR_none (r : Int) (hr : 0 < r) (hn : r ∉ ratL) : ∀ k, k ≤ 11 → rcR r k = 0
  | 0, _ => rfl
  | k + 1, h => by
    have hk : ∀ i : Fin 12, ofT ratL i.val ∈ ratL := by decide +kernel
    have h2 : ¬ (rcR r k = 0 ∧ hitR r ((k + 1 : Nat) : Int)) := by
      rintro ⟨-, e | ⟨e, -⟩⟩
      · exact hn (by rw [← e]; exact hk ⟨k + 1, by omega⟩)
      · omega
    rw [rcR, if_neg h2]
    exact rcR_none r hr hn k (by omega)
theorem hit_fits (r : Int) (hr : 0 < r) (c : Nat) (h : c = 12 ∨ c = 13 ∨ c = 14) : hitR r c ↔ rFits c r = true := by
  rcases h with rfl | rfl | rfl
  · show (ofT ratL 12 = r ∨ ((12 : Int) ≤ 12 ∧ r % 1000 = 0 ∧ r / 1000 ≤ 255)) ↔ decide (0 ≤ r ∧ r % 1000 = 0 ∧ r / 1000 < 256) = true
    have e : ofT ratL 12 = -2 := by decide
    rw [e, decide_eq_true_eq]; omega
  · show (ofT ratL 13 = r ∨ ((12 : Int) ≤ 13 ∧ r % 1 = 0 ∧ r / 1 ≤ 65535)) ↔ decide (0 ≤ r ∧ r % 1 = 0 ∧ r / 1 < 65536) = true
    have e : ofT ratL 13 = -2 := by decide
    rw [e, decide_eq_true_eq]; omega
  · show (ofT ratL 14 = r ∨ ((12 : Int) ≤ 14 ∧ r % 10 = 0 ∧ r / 10 ≤ 65535)) ↔ decide (0 ≤ r ∧ r % 10 = 0 ∧ r / 10 < 65536) = true
    have e : ofT ratL 14 = -2 := by decide
    rw [e, decide_eq_true_eq]; omega
theorem rc_eq (r : Int) (hr : 0 < r) : rcR r 14 = rcOf r := by
  by_cases hn : r ∈ ratL
  · have hk : ∀ x ∈ ratL, 0 < x → rcR x 14 = rcOf x := by decide +kernel
    exact hk r hn hr
  · have h1 : idxL ratL r < 0 := by
      by_cases h : idxL ratL r < 0
      · exact h
      · obtain ⟨i, e1, e2, e3⟩ := idxL_some h
        exact absurd (by rw [← e3]; exact getD_mem ratL i e2) hn
    have h11 := rcR_none r hr hn 11 (by omega)
    have f12 : hitR r 12 ↔ rFits 12 r = true := hit_fits r hr 12 (.inl rfl)
    have f13 : hitR r 13 ↔ rFits 13 r = true := hit_fits r hr 13 (.inr (.inl rfl))
    have f14 : hitR r 14 ↔ rFits 14 r = true := hit_fits r hr 14 (.inr (.inr rfl))
    have e : rcOf r = if rFits 12 r then 12 else if rFits 13 r then 13 else if rFits 14 r then 14 else 0 := if_pos h1
    have g12 : rcR r 12 = if hitR r 12 then 12 else 0 := by
      show (if rcR r 11 = 0 ∧ hitR r 12 then (12 : Int) else rcR r 11) = _
      rw [h11]; simp
    have g13 : rcR r 13 = if rcR r 12 = 0 ∧ hitR r 13 then 13 else rcR r 12 := rfl
    have g14 : rcR r 14 = if rcR r 13 = 0 ∧ hitR r 14 then 14 else rcR r 13 := rfl
    rw [e, g14, g13, g12]
    by_cases k12 : hitR r 12
    · rw [if_pos (f12.1 k12), if_pos k12]; simp
    · have k12' : ¬ rFits 12 r = true := fun h => k12 (f12.2 h)
      rw [if_neg k12', if_neg k12]
      by_cases k13 : hitR r 13
      · rw [if_pos (f13.1 k13)]; simp [k13]
      · have k13' : ¬ rFits 13 r = true := fun h => k13 (f13.2 h)
        rw [if_neg k13']
        by_cases k14 : hitR r 14
        · rw [if_pos (f14.1 k14)]; simp [k13, k14]
        · have k14' : ¬ rFits 14 r = true := fun h => k14 (f14.2 h)
          rw [if_neg k14']; simp [k13, k14]
theorem rcOf_zero : rcOf 0 = 0 := by decide +kernel
theorem dc_eq (d : Int) (h4 : 4 ≤ d) (h32 : d ≤ 32) : dcR d 7 = dcOf d ∧ ddR d 7 = depL.getD (dcOf d).toNat 0 := by
  obtain ⟨n, rfl⟩ : ∃ n : Nat, d = n := ⟨d.toNat, by omega⟩
  have hk : ∀ i : Fin 33, 4 ≤ i.val → dcR i.val 7 = dcOf i.val ∧ ddR i.val 7 = depL.getD (dcOf i.val).toNat 0 := by decide +kernel
  exact hk ⟨n, by omega⟩ (by show 4 ≤ n; omega)
/-- The reference's header is the program's. -/
theorem mkH_ref (V : Bool) (n b m rate depth : Int) (h : ¬ badM b rate depth) : mkH V n b m rate depth = ⟨V, bcF b, if 0 < rate then rcR rate 14 else 0, m, dcR depth 7, n, b, if 0 < rate then (if rcR rate 14 = 0 then 0 else rate) else 0, ddR depth 7⟩ := by
  have h' : ¬ b < 1 ∧ ¬ rate < 0 ∧ ¬ depth < 4 ∧ ¬ 32 < depth := by unfold badM at h; omega
  obtain ⟨d1, d2⟩ := dc_eq depth (by omega) (by omega)
  unfold mkH
  rw [bc_eq b (by omega), d1, d2]
  by_cases hr : 0 < rate
  · rw [if_pos hr, if_pos hr, rc_eq rate hr]
    have hge : 0 ≤ rcOf rate := by
      unfold rcOf
      split
      · have : rcAt rate 3 = 0 ∨ rcAt rate 3 = 12 ∨ rcAt rate 3 = 13 ∨ rcAt rate 3 = 14 := by
          rcases rcAt_law rate with h | h | h | h <;> omega
        omega
      · omega
    by_cases h0 : rcOf rate = 0
    · rw [if_neg (by omega), if_pos h0]
    · rw [if_pos (by omega), if_neg h0]
  · obtain rfl : rate = 0 := by omega
    rw [if_neg hr, if_neg hr, rcOf_zero]
    simp
end Go.Proofs.YtgohfbfdhdepnaaDoor
