/-
  jetsamlaw18.BurstFinds: its plain law.
-/
import Derived.Test.YticfmhmkgcdhgaaTrnW18
namespace Go.Proofs.Yticfmhmkgcdhgaa
open Crc (burstB dmg bl bk bits8 bitsOf bits8_le bitsOf_le kills)

/-- Which bursts make the sum 0. -/
theorem kill_iff (bs : List UInt8) (x : B3) (h : okB (8 * bs.length) x) : crc16 0 (burstB bs x.a x.n x.p) = 0 ↔ sumAt (crc16 0 bs) (8 * bs.length - (x.a + x.n)) = x.p := by
  obtain ⟨h1, h2, h3, h4⟩ := h
  have hp0 : x.p ≠ 0 := by omega
  have hn16 : x.n ≤ 16 := by rw [← h1]; exact Crc.bl_le _ _ h2
  have hpn := (Crc.bl_spec x.p hp0).2
  rw [h1] at hpn
  have e := Crc.crc_burst bs x.a x.n x.p hn16 hpn h4
  have hk := kills (crc16 0 bs) x.p (8 * bs.length - (x.a + x.n) + 16) (crc16_lt 0 (by decide) bs) h2
  have e1 : crc16 0 (burstB bs x.a x.n x.p) = crc16 0 bs ^^^ it Crc.L16 (8 * bs.length - (x.a + x.n) + 16) x.p := by
    rw [crc16_eq, crc16_eq]; exact e
  rw [e1, hk, sumAt, Nat.add_comm 16]
theorem mem_hits (N C : Nat) (most : Int) (y : B3) : ∀ K, y ∈ (hits N C most K).map (·.1) → ∃ k, k < K ∧ k < N ∧ hitC N C most k ∧ y = ⟨N - k - bl (sumAt C k), bl (sumAt C k), sumAt C k⟩
  | 0, h => by simp [hits] at h
  | K + 1, h => by
    rw [hits, List.map_append] at h
    rcases List.mem_append.1 h with h | h
    · obtain ⟨k, h1, h2⟩ := mem_hits N C most y K h
      exact ⟨k, by omega, h2⟩
    · by_cases hc : hitC N C most K ∧ K < N
      · rw [hit_pos N C most K hc.1 hc.2] at h
        simp at h
        exact ⟨K, by omega, hc.2, hc.1, h⟩
      · unfold hit at h
        rw [dif_neg hc] at h
        simp at h
theorem hits_mem (N C : Nat) (most : Int) (k : Nat) (hk : k < N) (hc : hitC N C most k) : ∀ K, k < K → (⟨N - k - bl (sumAt C k), bl (sumAt C k), sumAt C k⟩ : B3) ∈ (hits N C most K).map (·.1)
  | 0, h => by omega
  | K + 1, h => by
    rw [hits, List.map_append]
    rcases Nat.lt_or_ge k K with h1 | h1
    · exact List.mem_append_left _ (hits_mem N C most k hk hc K h1)
    · obtain rfl : k = K := by omega
      rw [hit_pos N C most k hc hk]
      exact List.mem_append_right _ (List.mem_singleton.2 rfl)
theorem hits_fall (N C : Nat) (most : Int) : ∀ K, ((hits N C most K).map (·.1)).Pairwise fun x y => y.a + y.n < x.a + x.n
  | 0 => List.Pairwise.nil
  | K + 1 => by
    rw [hits, List.map_append, List.pairwise_append]
    refine ⟨hits_fall N C most K, ?_, ?_⟩
    · by_cases hc : hitC N C most K ∧ K < N
      · rw [hit_pos N C most K hc.1 hc.2]; exact List.pairwise_singleton ..
      · unfold hit; rw [dif_neg hc]; exact List.Pairwise.nil
    · intro x hx y hy
      obtain ⟨k, h1, h2, h3, rfl⟩ := mem_hits N C most x K hx
      by_cases hc : hitC N C most K ∧ K < N
      · rw [hit_pos N C most K hc.1 hc.2] at hy
        simp at hy
        subst hy
        have h4 := h3.2.2.1
        have h5 := hc.1.2.2.1
        simp
        omega
      · unfold hit at hy; rw [dif_neg hc] at hy; simp at hy
theorem allB_fall (bs : List UInt8) (most : Int) : (allB bs most).Pairwise fun x y => y.a + y.n < x.a + x.n := by
  unfold allB allH
  split
  · exact List.Pairwise.nil
  · exact hits_fall _ _ _ _
/-- Every burst that All tells makes the sum 0, and is no wider. -/
theorem allB_kills (bs : List UInt8) (most : Int) (y : B3) (hy : y ∈ allB bs most) : crc16 0 (burstB bs y.a y.n y.p) = 0 ∧ (y.n : Int) ≤ most := by
  have hok := allB_ok bs most y hy
  unfold allB allH at hy
  split at hy
  · simp at hy
  · obtain ⟨k, h1, h2, h3, rfl⟩ := mem_hits _ _ _ _ _ hy
    refine ⟨(kill_iff bs _ hok).2 ?_, h3.2.1⟩
    have h4 := h3.2.2.1
    show sumAt _ (8 * bs.length - (8 * bs.length - k - bl (sumAt _ k) + bl (sumAt _ k))) = sumAt _ k
    congr 1
    omega
/-- Every burst that makes the sum 0, All tells. -/
theorem kills_allB (bs : List UInt8) (most : Int) (h16 : most ≤ 16) (x : B3) (hx : okB (8 * bs.length) x) (hw : (x.n : Int) ≤ most) (h0 : crc16 0 (burstB bs x.a x.n x.p) = 0) : x ∈ allB bs most := by
  have hs := (kill_iff bs x hx).1 h0
  obtain ⟨a, n, p⟩ := x
  obtain ⟨h1, h2, h3, h4⟩ := hx
  simp only at hs h1 h2 h3 h4 hw
  have hn0 : 0 < n := by rw [← h1]; exact Crc.bl_pos _ (by omega)
  have hC : crc16 0 bs ≠ 0 := by
    intro e
    rw [e] at hs
    have hz : ∀ k, it bk k 0 = 0 := by
      intro k
      induction k with
      | zero => rfl
      | succ k ih => show bk (it bk k 0) = 0; rw [ih]; rfl
    rw [sumAt, hz] at hs
    omega
  unfold allB allH
  rw [if_neg (by omega)]
  have hh : hitC (8 * bs.length) (crc16 0 bs) most (8 * bs.length - (a + n)) := by
    unfold hitC
    rw [hs, h1]
    exact ⟨h3, hw, by omega, h2⟩
  have := hits_mem _ _ _ _ (by omega) hh (8 * bs.length) (by omega)
  rw [hs, h1] at this
  rw [show 8 * bs.length - (8 * bs.length - (a + n)) - n = a from by omega] at this
  exact this
theorem order1 : ∀ j : Fin 500, j.val ≠ 0 → it bk j.val 1 ≠ 1 := by decide +kernel
theorem allB_right (bs : List UInt8) (most : Int) (h : crc16 0 bs = 0) : allB bs most = [] := by
  unfold allB allH
  rw [if_pos (.inr (.inr h))]; rfl
theorem bl_one (p : Nat) (h : bl p = 1) : p = 1 := by
  have h0 : p ≠ 0 := by intro e; subst e; simp [bl] at h
  have := Crc.bl_spec p h0
  rw [h] at this
  omega
theorem allB_one (bs : List UInt8) (hl : bs.length ≤ 62) (x : B3) (hx : x ∈ allB bs 1) : (allB bs 1).length = 1 := by
  have hf := allB_fall bs 1
  have hm : ∀ y ∈ allB bs 1, ∃ k, k < 8 * bs.length ∧ sumAt (crc16 0 bs) k = 1 ∧ y.a + y.n = 8 * bs.length - k := by
    intro y hy
    unfold allB allH at hy
    split at hy
    · simp at hy
    · obtain ⟨k, h1, h2, h3, rfl⟩ := mem_hits _ _ _ _ _ hy
      have h4 := h3.2.2.1
      have h5 : bl (sumAt (crc16 0 bs) k) = 1 := by
        have h6 := h3.2.1
        have h7 := h3.1
        have := Crc.bl_pos (sumAt (crc16 0 bs) k) (by omega)
        omega
      exact ⟨k, h1, bl_one _ h5, by show 8 * bs.length - k - bl (sumAt (crc16 0 bs) k) + bl (sumAt (crc16 0 bs) k) = 8 * bs.length - k; omega⟩
  match hA : allB bs 1 with
  | [] => rw [hA] at hx; simp at hx
  | [_] => rfl
  | y :: z :: t =>
    exfalso
    rw [hA] at hf hm
    obtain ⟨k1, a1, b1, c1⟩ := hm y (by simp)
    obtain ⟨k2, a2, b2, c2⟩ := hm z (by simp)
    have hlt := (List.pairwise_cons.1 hf).1 z (by simp)
    have hk : k1 < k2 := by omega
    have e : it bk (k2 - k1) 1 = 1 := by
      conv => lhs; rw [← b1]
      rw [sumAt, ← Crc.it_add, show k2 - k1 + (16 + k1) = 16 + k2 from by omega]
      exact b2
    exact order1 ⟨k2 - k1, by omega⟩ (by simp; omega) e
end Go.Proofs.Yticfmhmkgcdhgaa
