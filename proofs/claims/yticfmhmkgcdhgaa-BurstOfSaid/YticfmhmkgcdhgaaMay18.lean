/-
  jetsamref18.May: its walk.
-/
import Derived.Test.YticfmhmkgcdhgaaTrn18
namespace Go.Proofs.Yticfmhmkgcdhgaa
open Go.RowKit

set_option maxRecDepth 100000 in
set_option maxHeartbeats 4000000 in
theorem May_any (a n p : Int) (m : Nat) (hm : m ≤ 1000000) (w : World) :
    Calls Try.prog 15 #[.int .i64 a, .int .i64 n, .int .i64 p, .int .i64 (8 * (m : Int))] w fun e w' => e = .returned (.bool (decide (ckE a n p m = 0))) ∧ w' = w := by
  by_cases h1 : n < 1
  · have e : decide (ckE a n p m = 0) = false := by rw [decide_eq_false_iff_not, ckE, if_pos (by omega)]; decide
    rw [e]; clear e
    go_enter Try.func15, Try.ntmps15
    go_wp2_with fail
    go_ret
    exact ⟨rfl, rfl⟩
  by_cases h2 : 16 < n
  · have e : decide (ckE a n p m = 0) = false := by rw [decide_eq_false_iff_not, ckE, if_pos (by omega)]; decide
    rw [e]; clear e
    go_enter Try.func15, Try.ntmps15
    go_wp2_with fail
    go_ret
    exact ⟨rfl, rfl⟩
  by_cases h3 : a < 0
  · have e : decide (ckE a n p m = 0) = false := by rw [decide_eq_false_iff_not, ckE, if_pos (by omega)]; decide
    rw [e]; clear e
    go_enter Try.func15, Try.ntmps15
    go_wp2_with fail
    go_ret
    exact ⟨rfl, rfl⟩
  by_cases h4 : a > 8 * (m : Int) - n
  · have e : decide (ckE a n p m = 0) = false := by rw [decide_eq_false_iff_not, ckE, if_pos (by omega)]; decide
    rw [e]; clear e
    go_enter Try.func15, Try.ntmps15
    go_wp2_with fail
    go_ret
    exact ⟨rfl, rfl⟩
  obtain ⟨n, rfl⟩ : ∃ k : Nat, n = k := ⟨n.toNat, by omega⟩
  have hck := ck_pat a p n m (by omega) (by omega) (by omega) (by omega)
  obtain ⟨lo, hlo⟩ : ∃ lo : Nat, 2 ^ (n - 1) = lo := ⟨_, rfl⟩
  obtain ⟨hi, hhi⟩ : ∃ hi : Nat, 2 ^ n = hi := ⟨_, rfl⟩
  rw [hlo, hhi] at hck
  have hlo0 : 0 < lo := by rw [← hlo]; exact Nat.two_pow_pos _
  have hd : decide (ckE a n p m = 0) = decide ((lo : Int) ≤ p ∧ p < (hi : Int) ∧ p % 2 = 1) := decide_eq_decide.2 hck
  rw [hd]
  clear hck hd
  by_cases g1 : (lo : Int) ≤ p
  · by_cases g2 : p < (hi : Int)
    · by_cases g3 : p % 2 = 1
      · have e : decide ((lo : Int) ≤ p ∧ p < (hi : Int) ∧ p % 2 = 1) = true := by rw [decide_eq_true_iff]; exact ⟨g1, g2, g3⟩
        rw [e]; clear e
        have d5 : (p % 2 == 1) = true := by rw [beq_iff_eq]; omega
        have d5' : (p.tmod 2 == 1) = true := by rw [beq_iff_eq, Int.tmod_eq_emod_of_nonneg (by omega)]; omega
        have hn : n = 1 ∨ n = 2 ∨ n = 3 ∨ n = 4 ∨ n = 5 ∨ n = 6 ∨ n = 7 ∨ n = 8 ∨ n = 9 ∨ n = 10 ∨ n = 11 ∨ n = 12 ∨ n = 13 ∨ n = 14 ∨ n = 15 ∨ n = 16 := by omega
        rcases hn with rfl | rfl | rfl | rfl | rfl | rfl | rfl | rfl | rfl | rfl | rfl | rfl | rfl | rfl | rfl | rfl
        all_goals
          subst hlo hhi
          simp only [Nat.reduceSub, Nat.reducePow, Int.cast_ofNat_Int, Int.natCast_one] at g1 g2 h4 ⊢
          clear h1 h2 hlo0 g3
          go_enter Try.func15, Try.ntmps15
          go_wp2_with fail
          go_ret
          exact ⟨rfl, rfl⟩
      · have e : decide ((lo : Int) ≤ p ∧ p < (hi : Int) ∧ p % 2 = 1) = false := by rw [decide_eq_false_iff_not]; exact fun h => g3 h.2.2
        rw [e]; clear e
        have d5 : (p % 2 == 1) = false := by rw [beq_eq_false_iff_ne]; omega
        have d5' : (p.tmod 2 == 1) = false := by rw [beq_eq_false_iff_ne, Int.tmod_eq_emod_of_nonneg (by omega)]; omega
        have hn : n = 1 ∨ n = 2 ∨ n = 3 ∨ n = 4 ∨ n = 5 ∨ n = 6 ∨ n = 7 ∨ n = 8 ∨ n = 9 ∨ n = 10 ∨ n = 11 ∨ n = 12 ∨ n = 13 ∨ n = 14 ∨ n = 15 ∨ n = 16 := by omega
        rcases hn with rfl | rfl | rfl | rfl | rfl | rfl | rfl | rfl | rfl | rfl | rfl | rfl | rfl | rfl | rfl | rfl
        all_goals
          subst hlo hhi
          simp only [Nat.reduceSub, Nat.reducePow, Int.cast_ofNat_Int, Int.natCast_one] at g1 g2 h4 ⊢
          clear h1 h2 hlo0 g3
          go_enter Try.func15, Try.ntmps15
          go_wp2_with fail
          go_ret
          exact ⟨rfl, rfl⟩
    · have e : decide ((lo : Int) ≤ p ∧ p < (hi : Int) ∧ p % 2 = 1) = false := by rw [decide_eq_false_iff_not]; exact fun h => g2 h.2.1
      rw [e]; clear e
      have hn : n = 1 ∨ n = 2 ∨ n = 3 ∨ n = 4 ∨ n = 5 ∨ n = 6 ∨ n = 7 ∨ n = 8 ∨ n = 9 ∨ n = 10 ∨ n = 11 ∨ n = 12 ∨ n = 13 ∨ n = 14 ∨ n = 15 ∨ n = 16 := by omega
      rcases hn with rfl | rfl | rfl | rfl | rfl | rfl | rfl | rfl | rfl | rfl | rfl | rfl | rfl | rfl | rfl | rfl
      all_goals
        subst hlo hhi
        simp only [Nat.reduceSub, Nat.reducePow, Int.cast_ofNat_Int, Int.natCast_one] at g1 g2 h4 ⊢
        clear h1 h2 hlo0
        go_enter Try.func15, Try.ntmps15
        go_wp2_with fail
        go_ret
        exact ⟨rfl, rfl⟩
  · have e : decide ((lo : Int) ≤ p ∧ p < (hi : Int) ∧ p % 2 = 1) = false := by rw [decide_eq_false_iff_not]; exact fun h => g1 h.1
    rw [e]; clear e
    have hn : n = 1 ∨ n = 2 ∨ n = 3 ∨ n = 4 ∨ n = 5 ∨ n = 6 ∨ n = 7 ∨ n = 8 ∨ n = 9 ∨ n = 10 ∨ n = 11 ∨ n = 12 ∨ n = 13 ∨ n = 14 ∨ n = 15 ∨ n = 16 := by omega
    rcases hn with rfl | rfl | rfl | rfl | rfl | rfl | rfl | rfl | rfl | rfl | rfl | rfl | rfl | rfl | rfl | rfl
    all_goals
      subst hlo hhi
      simp only [Nat.reduceSub, Nat.reducePow, Int.cast_ofNat_Int, Int.natCast_one] at g1 h4 ⊢
      clear h1 h2 hlo0
      go_enter Try.func15, Try.ntmps15
      go_wp2_with fail
      go_ret
      exact ⟨rfl, rfl⟩
end Go.Proofs.Yticfmhmkgcdhgaa
