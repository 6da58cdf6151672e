/-
  The header that is made of what a header tells: the plain law.
-/
import Derived.Test.YtgohfbfdhdepnaaDoorMake08
import Derived.Test.YtgohfbfdhdepnaaDoorWrite08
namespace Go.Proofs.YtgohfbfdhdepnaaDoor
open Go.RowKit

theorem idxL_some {L : List Int} {x : Int} (h : ¬ idxL L x < 0) : ∃ i : Nat, idxL L x = i ∧ i < L.length ∧ L.getD i 0 = x := by
  unfold idxL at h ⊢
  split at h
  · rename_i i hi
    obtain ⟨h1, h2, -⟩ := List.findIdx?_eq_some_iff_getElem.1 hi
    refine ⟨i, rfl, h1, ?_⟩
    rw [List.getD_eq_getElem?_getD, List.getElem?_eq_getElem h1]
    simpa using h2
  · omega
theorem idxL_none {L : List Int} {x : Int} (h : idxL L x < 0) : x ∉ L := by
  unfold idxL at h
  split at h
  · omega
  · rename_i hn
    rw [List.findIdx?_eq_none_iff] at hn
    intro hx
    simpa using hn x hx
theorem getD_mem (L : List Int) (i : Nat) (h : i < L.length) : L.getD i 0 ∈ L := by
  rw [List.getD_eq_getElem?_getD, List.getElem?_eq_getElem h]
  exact List.getElem_mem h
/-- How many bits a block's code has behind it. -/
def blW (bc : Int) : Nat := if bc = 6 then 8 else if bc = 7 then 16 else 0
def raW (rc : Int) : Nat := if rc = 12 then 8 else if rc = 13 then 16 else if rc = 14 then 16 else 0
theorem bFits_tab (i : Nat) (hi : i < 16) (b : Int) (hb : 1 ≤ b) (e : blkL.getD i 0 = b) : ofT blkL i ≠ -1 ∧ bFits i b = true ∧ blW i = 0 := by
  have h : ∀ i : Fin 16, 1 ≤ blkL.getD i.val 0 → ofT blkL i.val ≠ -1 ∧ bFits i.val (blkL.getD i.val 0) = true ∧ blW i.val = 0 := by decide +kernel
  have := h ⟨i, hi⟩ (by show 1 ≤ blkL.getD i 0; omega)
  simp only [e] at this
  exact this
/-- The block's code that is made. -/
theorem bc_law (b : Int) (h1 : 1 ≤ b) (h2 : b ≤ 65535) : ofT blkL (bcOf b) ≠ -1 ∧ bFits (bcOf b) b = true ∧ (b ≤ 256 → blW (bcOf b) ≤ 8) ∧ blW (bcOf b) ≤ 16 ∧ (b ∈ blkL → blW (bcOf b) = 0) := by
  by_cases hi : idxL blkL b < 0
  · have hn := idxL_none hi
    have e : bcOf b = 7 - (bitV (decide (b ≤ 256)) : Int) := if_pos hi
    by_cases h3 : b ≤ 256
    · have e2 : bcOf b = 6 := by rw [e, decide_eq_true h3]; rfl
      rw [e2]
      exact ⟨by decide, decide_eq_true ⟨h1, h3⟩, fun _ => by decide, by decide, fun h => absurd h hn⟩
    · have e2 : bcOf b = 7 := by rw [e, decide_eq_false h3]; rfl
      rw [e2]
      exact ⟨by decide, decide_eq_true ⟨h1, h2⟩, fun h => absurd h h3, by decide, fun h => absurd h hn⟩
  · obtain ⟨i, e1, e2, e3⟩ := idxL_some hi
    have e : bcOf b = i := by rw [bcOf, if_neg hi, e1]
    obtain ⟨k1, k2, k3⟩ := bFits_tab i e2 b h1 e3
    rw [e]
    exact ⟨k1, k2, fun _ => by omega, by omega, fun _ => k3⟩
theorem rFits_tab (i : Nat) (hi : i < 16) (r : Int) (hr : 0 ≤ r) (e : ratL.getD i 0 = r) : ofT ratL i ≠ -1 ∧ rFits i r = true ∧ raW i = 0 ∧ (i = 0 → r = 0) := by
  have h : ∀ i : Fin 16, 0 ≤ ratL.getD i.val 0 → ofT ratL i.val ≠ -1 ∧ rFits i.val (ratL.getD i.val 0) = true ∧ raW i.val = 0 ∧ (i.val = 0 → ratL.getD i.val 0 = 0) := by decide +kernel
  have := h ⟨i, hi⟩ (by show 0 ≤ ratL.getD i 0; omega)
  simp only [e] at this
  exact this
theorem rcAt_law (r : Int) : (rcAt r 3 = 0 ∧ rFits 12 r = false ∧ rFits 13 r = false ∧ rFits 14 r = false) ∨ (rcAt r 3 = 12 ∧ rFits 12 r = true) ∨ (rcAt r 3 = 13 ∧ rFits 13 r = true ∧ rFits 12 r = false) ∨ (rcAt r 3 = 14 ∧ rFits 14 r = true ∧ rFits 12 r = false ∧ rFits 13 r = false) := by
  have e : rcAt r 3 = if rFits 12 r then 12 else if rFits 13 r then 13 else if rFits 14 r then 14 else 0 := rfl
  rw [e]
  cases rFits 12 r <;> cases rFits 13 r <;> cases rFits 14 r <;> simp
/-- The rate's code that is made, of a rate that some code tells. -/
theorem rc_law (rc : Nat) (hrc : rc < 15) (r : Int) (hf : rFits rc r = true) : ofT ratL (rcOf r) ≠ -1 ∧ 0 ≤ rcOf r ∧ rFits (rcOf r) r = true ∧ raW (rcOf r) ≤ raW rc ∧ (if 0 < rcOf r then r else 0) = r ∧ 0 ≤ r ∧ r ≤ 1048575 := by
  have hlow : rc < 12 → ratL.getD rc 0 = r ∧ 0 ≤ r ∧ r ≤ 1048575 := by
    intro h
    have hk : ∀ i : Fin 12, ratL.getD i.val 0 ≠ -2 ∧ 0 ≤ ratL.getD i.val 0 ∧ ratL.getD i.val 0 ≤ 1048575 := by decide +kernel
    obtain ⟨k1, k2, k3⟩ := hk ⟨rc, h⟩
    have e : rFits rc r = decide (r = ratL.getD rc 0) := by rw [rFits, Int.toNat_natCast, if_neg k1]
    rw [e] at hf
    have := of_decide_eq_true hf
    simp only at k2 k3
    omega
  have hhigh : ¬ rc < 12 → (rc = 12 ∨ rc = 13 ∨ rc = 14) := by omega
  have h12 : rc = 12 → 0 ≤ r ∧ r ≤ 1048575 := by
    rintro rfl
    have := of_decide_eq_true (show decide (0 ≤ r ∧ r % 1000 = 0 ∧ r / 1000 < 256) = true from hf)
    omega
  have h13 : rc = 13 → 0 ≤ r ∧ r ≤ 1048575 := by
    rintro rfl
    have := of_decide_eq_true (show decide (0 ≤ r ∧ r % 1 = 0 ∧ r / 1 < 65536) = true from hf)
    omega
  have h14 : rc = 14 → 0 ≤ r ∧ r ≤ 1048575 := by
    rintro rfl
    have := of_decide_eq_true (show decide (0 ≤ r ∧ r % 10 = 0 ∧ r / 10 < 65536) = true from hf)
    omega
  have hb : 0 ≤ r ∧ r ≤ 1048575 := by
    by_cases h : rc < 12
    · exact (hlow h).2
    · rcases hhigh h with h | h | h
      · exact h12 h
      · exact h13 h
      · exact h14 h
  by_cases hi : idxL ratL r < 0
  · have hn := idxL_none hi
    have e : rcOf r = rcAt r 3 := if_pos hi
    have h12 : ¬ rc < 12 := fun h => hn (by rw [← (hlow h).1]; exact getD_mem ratL rc (Nat.lt_trans h (by decide)))
    have hw : raW rc = if rc = 12 then 8 else 16 := by rcases hhigh h12 with rfl | rfl | rfl <;> rfl
    rw [e, hw]
    rcases rcAt_law r with ⟨-, k1, k2, k3⟩ | ⟨k, k1⟩ | ⟨k, k1, k2⟩ | ⟨k, k1, k2, k3⟩
    · rcases hhigh h12 with rfl | rfl | rfl
      · rw [show ((12 : Nat) : Int) = 12 from rfl, k1] at hf; cases hf
      · rw [show ((13 : Nat) : Int) = 13 from rfl, k2] at hf; cases hf
      · rw [show ((14 : Nat) : Int) = 14 from rfl, k3] at hf; cases hf
    · rw [k]; exact ⟨by decide, by decide, k1, by split <;> decide, if_pos (by decide), hb.1, hb.2⟩
    · have : rc ≠ 12 := by rintro rfl; rw [show ((12 : Nat) : Int) = 12 from rfl, k2] at hf; cases hf
      rw [k]; exact ⟨by decide, by decide, k1, by rw [if_neg this]; decide, if_pos (by decide), hb.1, hb.2⟩
    · have : rc ≠ 12 := by rintro rfl; rw [show ((12 : Nat) : Int) = 12 from rfl, k2] at hf; cases hf
      rw [k]; exact ⟨by decide, by decide, k1, by rw [if_neg this]; decide, if_pos (by decide), hb.1, hb.2⟩
  · obtain ⟨i, e1, e2, e3⟩ := idxL_some hi
    have e : rcOf r = i := by rw [rcOf, if_neg hi, e1]
    obtain ⟨k1, k2, k3, k4⟩ := rFits_tab i e2 r hb.1 e3
    rw [e]
    refine ⟨k1, by omega, k2, by omega, ?_, hb.1, hb.2⟩
    by_cases h0 : i = 0
    · rw [if_neg (by omega), k4 h0]
    · rw [if_pos (by omega)]
theorem dc_law (dc : Nat) (h : dc < 8) (h3 : dc ≠ 3) : let d := depL.getD dc 0; let dp := if d = 0 then 9 else d; ofT depL (dcOf dp) ≠ -1 ∧ depL.getD (dcOf dp).toNat 0 = d ∧ 4 ≤ dp ∧ dp ≤ 32 := by
  have hk : ∀ i : Fin 8, i.val ≠ 3 → let d := depL.getD i.val 0; let dp := if d = 0 then 9 else d; ofT depL (dcOf dp) ≠ -1 ∧ depL.getD (dcOf dp).toNat 0 = d ∧ 4 ≤ dp ∧ dp ≤ 32 := by decide +kernel
  exact hk ⟨dc, h⟩ h3
theorem hdI_length (h : Hd) : (hdI h).length = 32 + 8 * C3.szN h.n.toNat + (blkI h.bc.toNat h.b).length + (ratI h.rc.toNat h.r).length := by
  unfold hdI hdI0
  simp only [List.length_append, vb_length, by8_length, codB_length, List.length_nil]
theorem blkI_length (bc : Nat) (b : Int) : (blkI bc b).length = blW bc := by
  by_cases h6 : bc = 6
  · subst h6
    show (vb _ 8).length = 8
    rw [vb_length]
  · by_cases h7 : bc = 7
    · subst h7
      show (vb _ 16).length = 16
      rw [vb_length]
    · have i6 : ¬ (bc : Int) = 6 := by omega
      have i7 : ¬ (bc : Int) = 7 := by omega
      rw [blkI, if_neg h6, if_neg h7, blW, if_neg i6, if_neg i7]
      rfl
theorem ratI_length (rc : Nat) (r : Int) : (ratI rc r).length = raW rc := by
  by_cases h6 : rc = 12
  · subst h6
    show (vb _ 8).length = 8
    rw [vb_length]
  · by_cases h7 : rc = 13
    · subst h7
      show (vb _ 16).length = 16
      rw [vb_length]
    · by_cases h8 : rc = 14
      · subst h8
        show (vb _ 16).length = 16
        rw [vb_length]
      · have i6 : ¬ (rc : Int) = 12 := by omega
        have i7 : ¬ (rc : Int) = 13 := by omega
        have i8 : ¬ (rc : Int) = 14 := by omega
        rw [ratI, if_neg h6, if_neg h7, if_neg h8, raW, if_neg i6, if_neg i7, if_neg i8]
        rfl
theorem hdB_length (h : Hd) : (hdB h).length = ((hdI h).length + 7) / 8 + 1 := by unfold hdB; rw [List.length_append, pkL_length]; rfl
theorem fits_in {bc : Nat} (hbc : bc < 16) {b : Int} (hf : bFits bc b = true) (h0 : bc ≠ 0) : 1 ≤ b ∧ b ≤ 65535 ∧ (bc = 6 → b ≤ 256) ∧ (bc ≠ 6 → bc ≠ 7 → b ∈ blkL) := by
  unfold bFits at hf
  by_cases h6 : bc = 6
  · subst h6
    have := of_decide_eq_true (show decide (1 ≤ b ∧ b ≤ 256) = true from hf)
    exact ⟨by omega, by omega, fun _ => by omega, fun h => absurd rfl h⟩
  · rw [if_neg (by omega)] at hf
    by_cases h7 : bc = 7
    · subst h7
      have := of_decide_eq_true (show decide (1 ≤ b ∧ b ≤ 65535) = true from hf)
      exact ⟨by omega, by omega, fun h => absurd h h6, fun _ h => absurd rfl h⟩
    · rw [if_neg (by omega), Int.toNat_natCast] at hf
      have e := of_decide_eq_true hf
      have hk : ∀ i : Fin 16, i.val ≠ 0 → i.val ≠ 6 → i.val ≠ 7 → 1 ≤ blkL.getD i.val 0 ∧ blkL.getD i.val 0 ≤ 65535 := by decide +kernel
      have h := hk ⟨bc, hbc⟩ h0 h6 h7
      simp only at h
      rw [← e] at h
      exact ⟨h.1, h.2, fun h => absurd h h6, fun _ _ => by rw [e]; exact getD_mem blkL bc hbc⟩
theorem chanM_self (m : Int) (h : chE m = 0) : chanM m (chN m) = 0 := by
  unfold chanM
  rw [h, bne_self_eq_false]
  rfl
theorem short_law (h : Hd) (e : chkE h = 0) : let dp := if h.d = 0 then 9 else h.d; let x := mkH h.V h.n h.b h.m h.r dp; ¬ badM h.b h.r dp ∧ mkE h.V h.n h.b h.m h.r (chN h.m) dp = 0 ∧ chkE x = 0 ∧ x.b = h.b ∧ x.r = h.r ∧ x.d = h.d ∧ x.n = h.n ∧ (hdB x).length ≤ (hdB h).length ∧ 6 ≤ (hdB x).length ∧ h.r ≤ 1048575 := by
  obtain ⟨bc, rc, m, dc, n, hh, hbc, hrc, hm, hdc, hn, hnm, hbf, hrf, hbc0, hrc15, hdc3⟩ := hd_ok e
  obtain ⟨V, bc', rc', m', dc', n', b, r, d⟩ := h
  simp only [Hd.mk.injEq] at hh
  obtain ⟨-, rfl, rfl, rfl, rfl, rfl, -, -, rfl⟩ := hh
  simp only at hbf hrf hnm ⊢
  obtain ⟨f1, f2, f3, f4⟩ := fits_in hbc hbf hbc0
  obtain ⟨b1, b2, b3, b4, b5⟩ := bc_law b f1 f2
  obtain ⟨r1, r2, r3, r4, r5, r6, r7⟩ := rc_law rc (by omega) r hrf
  obtain ⟨d1, d2, d3, d4⟩ := dc_law dc hdc hdc3
  obtain ⟨dp, hdp⟩ : ∃ dp, (if depL.getD dc 0 = 0 then (9 : Int) else depL.getD dc 0) = dp := ⟨_, rfl⟩
  simp only [hdp] at d1 d2 d3 d4 ⊢
  have hbad : ¬ badM b r dp := by unfold badM; omega
  have hch : chE (m : Int) = 0 := if_neg (by omega)
  have hck : chkE (mkH V n b m r dp) = 0 := by
    have hc : codE (mkH V n b m r dp) = 0 := by
      unfold codE mkH
      have e1 : (ofT blkL (bcOf b) == -1) = false := by rw [beq_eq_false_iff_ne]; exact b1
      have e2 : (ofT ratL (rcOf r) == -1) = false := by rw [beq_eq_false_iff_ne]; exact r1
      have e3 : (ofT depL (dcOf dp) == -1) = false := by rw [beq_eq_false_iff_ne]; exact d1
      simp only [e1, e2, e3, hch]
      rfl
    unfold chkE
    rw [if_pos hc]
    unfold mkH
    have e1 : (decide ((n : Int) < 0) || decide ((n : Int) ≥ mostV V)) = false := by
      rw [decide_eq_false (by omega), decide_eq_false (by omega)]; rfl
    simp only [e1, b2, r5, r3, bne_self_eq_false]
    rfl
  refine ⟨hbad, ?_, hck, rfl, r5, d2, rfl, ?_, ?_, by omega⟩
  · unfold mkE
    rw [if_neg hbad, chanM_self _ hch, if_pos rfl]
    exact hck
  · have k1 : ∀ x : Int, 0 ≤ x → ((x.toNat : Nat) : Int) = x := fun x h => by omega
    have hbw : blW (bcOf b) ≤ blW bc := by
      by_cases h6 : bc = 6
      · have := b3 (f3 h6); subst h6; exact this
      · by_cases h7 : bc = 7
        · subst h7; exact b4
        · rw [b5 (f4 h6 h7)]; omega
    have hbc0' : 0 ≤ bcOf b := (ofT_in b1).1
    rw [hdB_length, hdB_length, hdI_length, hdI_length, blkI_length, blkI_length, ratI_length, ratI_length]
    simp only [mkH, Int.toNat_natCast, k1 _ hbc0', k1 _ r2]
    omega
  · rw [hdB_length, hdI_length]
    have := (C3.szN_pos n).1
    simp only [mkH, Int.toNat_natCast]
    omega
end Go.Proofs.YtgohfbfdhdepnaaDoor
