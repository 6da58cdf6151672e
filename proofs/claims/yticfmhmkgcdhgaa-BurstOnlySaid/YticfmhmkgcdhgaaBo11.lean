/-
  burst.Check, burst.back, burst.of.
-/
import Derived.Test.YticfmhmkgcdhgaaBo10
import Derived.BigQuiet
set_option linter.unusedSimpArgs false
set_option linter.unusedVariables false
namespace Go.Proofs.Yticfmhmkgcdhgaa
open Go.RowKit
open Crc (bl bk)

theorem back_any (s : Nat) (hs : s < 65536) (w : World) :
    Calls Try.prog 35 #[.int .i64 s] w fun e w' => e = .returned (.int .i64 (bk s : Nat)) ∧ w' = w := by
  by_cases h : s % 2 = 1
  · have hm : (s : Int) % 2 > 0 := by omega
    have hx : bits .xor .i64 (s : Int) 98309 = ((s ^^^ 98309 : Nat) : Int) := i64_xor_nat s 98309 (by omega) (by omega)
    have HX := Lib.hid hx
    clear hx
    have hv : bk s = (s ^^^ 98309) / 2 := if_pos h
    have Hv := Lib.hid hv
    have hy : s ^^^ 98309 < 131072 := Nat.xor_lt_two_pow (n := 17) (by omega) (by omega)
    clear hv h
    generalize bk s = B at *
    generalize s ^^^ 98309 = y at *
    go_enter Try.func35, Try.ntmps35
    go_wp2_with fail
    go_ret
    exact ⟨ret_int (by rw [Hv.out, HX.out]; omega), rfl⟩
  · have hm : ¬ (s : Int) % 2 > 0 := by omega
    have hv : bk s = s / 2 := if_neg h
    have Hv := Lib.hid hv
    clear hv h
    generalize bk s = B at *
    go_enter Try.func35, Try.ntmps35
    go_wp2_with fail
    go_ret
    exact ⟨ret_int (by rw [Hv.out]; omega), rfl⟩

theorem u64_wrap (p : Nat) (h : p < 9223372036854775808) : IntKind.u64.wrap (p : Int) = p := by
  simp only [IntKind.wrap, IntKind.bits, IntKind.signed]
  simp
  omega
set_option maxHeartbeats 400000 in
theorem of_any (s t : Nat) (hs : s < 65536) (ht : t ≤ 1000000) (w : World) :
    Calls Try.prog 36 #[.int .i64 s, .int .i64 t] w fun e w' => e = .returned (.agg #[.int .i64 ((t : Int) - (bl s : Nat)), .int .i64 (bl s : Nat), .int .i64 s]) ∧ Below w.heap.size w w' := by
  have hw := u64_wrap s (by omega)
  have HL := Lib.hid (fun W => Len_any s (by omega) W)
  have hb := Crc.bl_le s 16 (by omega)
  generalize bl s = n at *
  go_enter Try.func36, Try.ntmps36
  go_wp2_with fail
  refine (HL.out _).mono ?_
  rintro e w' ⟨rfl, rfl⟩
  go_wp2_with fail
  exact bodyPost_ret (v := .agg #[.int .i64 ((t : Int) - n), .int .i64 n, .int .i64 s]) (by simp [results, Try.results36, go_sem]) rfl ⟨rfl, by repeat (first | exact Below.refl _ _ | assumption | refine below_drewN ?_ _ | refine Below.drew ?_ | refine Below.alloc ?_ (Nat.le_refl _) _ | refine bal ?_ _ | refine bnext ?_ (by assumption))⟩

def ckE (a n p : Int) (m : Nat) : Int := if n < 1 ∨ 16 < n ∨ p < 0 ∨ ((bl p.toNat : Nat) : Int) ≠ n ∨ p % 2 = 0 ∨ a < 0 ∨ 8 * (m : Int) - n < a then 10 else 0
set_option maxRecDepth 100000 in
set_option maxHeartbeats 1000000 in
theorem Check_any (a n p : Int) (m : Nat) (hm : m ≤ 1000000) (hp : p ≤ 9223372036854775807) (w : World) :
    Calls Try.prog 16 #[.agg #[.int .i64 a, .int .i64 n, .int .i64 p], .int .i64 m] w fun e w' => e = .returned (.int .i64 (ckE a n p m)) ∧ Below w.heap.size w w' := by
  by_cases h1 : n < 1
  · have d1 : decide (n < 1) = true := by rw [decide_eq_true_iff]; exact h1
    rw [ckE, if_pos (by omega)]
    clear h1
    go_enter Try.func16, Try.ntmps16
    go_wp2_with fail
    go_quiet (fail)
    go_wp2_with fail
    go_ret
    exact ⟨rfl, by repeat (first | exact Below.refl _ _ | assumption | refine below_drewN ?_ _ | refine Below.drew ?_ | refine Below.alloc ?_ (Nat.le_refl _) _ | refine bal ?_ _ | refine bnext ?_ (by assumption))⟩
  have d1 : decide (n < 1) = false := by rw [decide_eq_false_iff_not]; exact h1
  by_cases h2 : 16 < n
  · have d2 : decide (16 < n) = true := by rw [decide_eq_true_iff]; exact h2
    rw [ckE, if_pos (by omega)]
    clear h1 h2
    go_enter Try.func16, Try.ntmps16
    go_wp2_with fail
    go_quiet (fail)
    go_wp2_with fail
    go_ret
    exact ⟨rfl, by repeat (first | exact Below.refl _ _ | assumption | refine below_drewN ?_ _ | refine Below.drew ?_ | refine Below.alloc ?_ (Nat.le_refl _) _ | refine bal ?_ _ | refine bnext ?_ (by assumption))⟩
  have d2 : decide (16 < n) = false := by rw [decide_eq_false_iff_not]; exact h2
  by_cases h3 : p < 0
  · have d3 : decide (p < 0) = true := by rw [decide_eq_true_iff]; exact h3
    rw [ckE, if_pos (by omega)]
    clear h1 h2 h3 hp
    go_enter Try.func16, Try.ntmps16
    go_wp2_with fail
    go_quiet (fail)
    go_wp2_with fail
    go_ret
    exact ⟨rfl, by repeat (first | exact Below.refl _ _ | assumption | refine below_drewN ?_ _ | refine Below.drew ?_ | refine Below.alloc ?_ (Nat.le_refl _) _ | refine bal ?_ _ | refine bnext ?_ (by assumption))⟩
  obtain ⟨q, rfl⟩ : ∃ q : Nat, p = q := ⟨p.toNat, by omega⟩
  have d3 : decide ((q : Int) < 0) = false := by rw [decide_eq_false_iff_not]; omega
  have hw := u64_wrap q (by omega)
  have HL := Lib.hid (fun W => Len_any q (by omega) W)
  have hE : ckE a n q m = if n < 1 ∨ 16 < n ∨ (q : Int) < 0 ∨ ((bl q : Nat) : Int) ≠ n ∨ (q : Int) % 2 = 0 ∨ a < 0 ∨ 8 * (m : Int) - n < a then 10 else 0 := by rw [ckE, Int.toNat_natCast]
  rw [hE]
  clear hE
  obtain ⟨k, hk⟩ : ∃ k, bl q = k := ⟨_, rfl⟩
  rw [hk] at HL ⊢
  clear hk
  by_cases h4 : (k : Int) = n
  · subst h4
    have d4 : ((k : Int) != (k : Int)) = false := by simp
    by_cases h5 : q % 2 = 0
    · have d5 : ((q : Int) % 2 == 0) = true := by rw [beq_iff_eq]; omega
      have d5' : ((q : Int).tmod 2 == 0) = true := by rw [beq_iff_eq, Int.tmod_eq_emod_of_nonneg (by omega)]; omega
      rw [if_pos (by omega)]
      clear h1 h2 h3 hp h5
      go_enter Try.func16, Try.ntmps16
      go_wp2_with fail
      go_quiet ((go_at_call 28; exact Calls.quiet_of_same (HL.out _)))
      go_wp2_with fail
      go_ret
      exact ⟨rfl, by repeat (first | exact Below.refl _ _ | assumption | refine below_drewN ?_ _ | refine Below.drew ?_ | refine Below.alloc ?_ (Nat.le_refl _) _ | refine bal ?_ _ | refine bnext ?_ (by assumption))⟩
    have d5 : ((q : Int) % 2 == 0) = false := by rw [beq_eq_false_iff_ne]; omega
    have d5' : ((q : Int).tmod 2 == 0) = false := by rw [beq_eq_false_iff_ne, Int.tmod_eq_emod_of_nonneg (by omega)]; omega
    by_cases h6 : a < 0
    · rw [if_pos (by omega)]
      clear h1 h2 h3 hp h5
      go_enter Try.func16, Try.ntmps16
      go_wp2_with fail
      go_quiet ((go_at_call 28; exact Calls.quiet_of_same (HL.out _)))
      go_wp2_with fail
      go_ret
      exact ⟨rfl, by repeat (first | exact Below.refl _ _ | assumption | refine below_drewN ?_ _ | refine Below.drew ?_ | refine Below.alloc ?_ (Nat.le_refl _) _ | refine bal ?_ _ | refine bnext ?_ (by assumption))⟩
    by_cases h7 : 8 * (m : Int) - k < a
    · rw [if_pos (by omega)]
      clear h3 hp h5
      have h1' : 1 ≤ (k : Int) := by omega
      have h2' : (k : Int) ≤ 16 := by omega
      have h7' : a > 8 * (m : Int) - k := h7
      go_enter Try.func16, Try.ntmps16
      go_wp2_with fail
      go_quiet ((go_at_call 28; exact Calls.quiet_of_same (HL.out _)))
      go_wp2_with fail
      go_ret
      exact ⟨rfl, by repeat (first | exact Below.refl _ _ | assumption | refine below_drewN ?_ _ | refine Below.drew ?_ | refine Below.alloc ?_ (Nat.le_refl _) _ | refine bal ?_ _ | refine bnext ?_ (by assumption))⟩
    · rw [if_neg (by omega)]
      clear h3 hp h5
      have h1' : 1 ≤ (k : Int) := by omega
      have h2' : (k : Int) ≤ 16 := by omega
      have h7' : ¬ a > 8 * (m : Int) - k := h7
      go_enter Try.func16, Try.ntmps16
      go_wp2_with fail
      go_quiet ((go_at_call 28; exact Calls.quiet_of_same (HL.out _)))
      go_wp2_with fail
      go_ret
      exact ⟨rfl, by repeat (first | exact Below.refl _ _ | assumption | refine below_drewN ?_ _ | refine Below.drew ?_ | refine Below.alloc ?_ (Nat.le_refl _) _ | refine bal ?_ _ | refine bnext ?_ (by assumption))⟩
  · have d4 : ((k : Int) != n) = true := by rw [bne_iff_ne]; exact h4
    rw [if_pos (by omega)]
    clear h1 h2 h3 hp h4
    go_enter Try.func16, Try.ntmps16
    go_wp2_with fail
    go_quiet ((go_at_call 28; exact Calls.quiet_of_same (HL.out _)))
    go_wp2_with fail
    go_ret
    exact ⟨rfl, by repeat (first | exact Below.refl _ _ | assumption | refine below_drewN ?_ _ | refine Below.drew ?_ | refine Below.alloc ?_ (Nat.le_refl _) _ | refine bal ?_ _ | refine bnext ?_ (by assumption))⟩
end Go.Proofs.Yticfmhmkgcdhgaa
