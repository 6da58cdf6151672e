/-
  jetsamlaw02.SumsShift: its walk and its plain law.
-/
import Derived.Test.YtjfjkmbokiinbaaAwake02
import Derived.Test.YtjfjkmbokiinbaaRefSums
import Derived.Test.YtjfjkmbokiinbaaCrcEq
namespace Go.Proofs.Ytjfjkmbokiinbaa
open Go.RowKit

theorem shift8_same (n s : Nat) (hs : s < 256) : it (fun s => lst8 s 0) n s = it step8 n s := by
  induction n with
  | zero => exact (rfl : s = s)
  | succ n ih =>
    have h := Crc.p8.lst0 (it step8 n s) (it_lt step8_lt n s hs)
    rw [← lst8_eq, ← step8_eq] at h
    exact (congrArg (fun t => lst8 t 0) ih).trans h
theorem shift16_same (n s : Nat) (hs : s < 65536) : it (fun s => lst16 s 0) n s = it step16 n s := by
  induction n with
  | zero => exact (rfl : s = s)
  | succ n ih =>
    have h := Crc.p16.lst0 (it step16 n s) (it_lt step16_lt n s hs)
    rw [← lst16_eq, ← step16_eq] at h
    exact (congrArg (fun t => lst16 t 0) ih).trans h

set_option maxRecDepth 100000 in
set_option maxHeartbeats 1600000 in
theorem shift_walk (s n : Int) (hs : s ≤ 9223372036854775807) (w : World) :
    Calls Try.prog 6 #[.int .i64 s, .int .i64 n] w fun e w' => e = .returned (.bool true) ∧ Below w.heap.size w w' := by
  by_cases h1 : 3000 < n
  · by_cases h2 : n ≤ 1048576
    · go_enter Try.func6, Try.ntmps6
      go_wp2_with fail
      (refine (awake_any _).mono ?_; rintro e w9 ⟨rfl, hb9⟩; go_wp2_with fail; go_ret; exact ⟨rfl, by repeat (first | exact Below.refl _ _ | assumption | refine below_drewN ?_ _ | refine Below.drew ?_ | refine Below.alloc ?_ (Nat.le_refl _) _ | refine bal ?_ _ | refine bnext ?_ (by assumption))⟩)
    · have C8 := Lib.hid fun w => Shift8_no s n (by omega) (by omega) w
      have C16 := Lib.hid fun w => Shift16_no s n (by omega) (by omega) w
      by_cases h3 : n < 0
      · omega
      go_enter Try.func6, Try.ntmps6
      go_wp2_with fail
      refine (C8.out _).mono ?_
      rintro e w1 ⟨rfl, hb1⟩
      go_wp2_with fail
      refine (C16.out _).mono ?_
      rintro e w2 ⟨rfl, hb2⟩
      go_wp2_with fail
      (refine (awake_any _).mono ?_; rintro e w9 ⟨rfl, hb9⟩; go_wp2_with fail; go_ret; exact ⟨rfl, by repeat (first | exact Below.refl _ _ | assumption | refine below_drewN ?_ _ | refine Below.drew ?_ | refine Below.alloc ?_ (Nat.le_refl _) _ | refine bal ?_ _ | refine bnext ?_ (by assumption))⟩)
  have h2 : ¬ 1048576 < n := by omega
  by_cases h3 : n < 0
  · have C8 := Lib.hid fun w => Shift8_no s n (by omega) (by omega) w
    have C16 := Lib.hid fun w => Shift16_no s n (by omega) (by omega) w
    go_enter Try.func6, Try.ntmps6
    go_wp2_with fail
    refine (C8.out _).mono ?_
    rintro e w1 ⟨rfl, hb1⟩
    go_wp2_with fail
    refine (C16.out _).mono ?_
    rintro e w2 ⟨rfl, hb2⟩
    go_wp2_with fail
    (refine (awake_any _).mono ?_; rintro e w9 ⟨rfl, hb9⟩; go_wp2_with fail; go_ret; exact ⟨rfl, by repeat (first | exact Below.refl _ _ | assumption | refine below_drewN ?_ _ | refine Below.drew ?_ | refine Below.alloc ?_ (Nat.le_refl _) _ | refine bal ?_ _ | refine bnext ?_ (by assumption))⟩)
  by_cases h4 : s < 0
  · have C8 := Lib.hid fun w => Shift8_no s n (by omega) (by omega) w
    have C16 := Lib.hid fun w => Shift16_no s n (by omega) (by omega) w
    go_enter Try.func6, Try.ntmps6
    go_wp2_with fail
    refine (C8.out _).mono ?_
    rintro e w1 ⟨rfl, hb1⟩
    go_wp2_with fail
    refine (C16.out _).mono ?_
    rintro e w2 ⟨rfl, hb2⟩
    go_wp2_with fail
    (refine (awake_any _).mono ?_; rintro e w9 ⟨rfl, hb9⟩; go_wp2_with fail; go_ret; exact ⟨rfl, by repeat (first | exact Below.refl _ _ | assumption | refine below_drewN ?_ _ | refine Below.drew ?_ | refine Below.alloc ?_ (Nat.le_refl _) _ | refine bal ?_ _ | refine bnext ?_ (by assumption))⟩)
  by_cases h5 : 65535 < s
  · have C8 := Lib.hid fun w => Shift8_no s n (by omega) (by omega) w
    have C16 := Lib.hid fun w => Shift16_no s n (by omega) (by omega) w
    go_enter Try.func6, Try.ntmps6
    go_wp2_with fail
    refine (C8.out _).mono ?_
    rintro e w1 ⟨rfl, hb1⟩
    go_wp2_with fail
    refine (C16.out _).mono ?_
    rintro e w2 ⟨rfl, hb2⟩
    go_wp2_with fail
    (refine (awake_any _).mono ?_; rintro e w9 ⟨rfl, hb9⟩; go_wp2_with fail; go_ret; exact ⟨rfl, by repeat (first | exact Below.refl _ _ | assumption | refine below_drewN ?_ _ | refine Below.drew ?_ | refine Below.alloc ?_ (Nat.le_refl _) _ | refine bal ?_ _ | refine bnext ?_ (by assumption))⟩)
  obtain ⟨X16, hX16⟩ : ∃ X : Nat, X = it step16 n.toNat s.toNat := ⟨_, rfl⟩
  have C16 : Hid (∀ w : World, Calls Try.prog 14 #[.int .i64 s, .int .i64 n] w fun e w' => e = .returned (.tuple #[.int .i64 X16, .int .i64 0]) ∧ Below w.heap.size w w') := by
    intro w
    have := Shift16_ok s.toNat n.toNat (by omega) (by omega) w
    rwa [Int.toNat_of_nonneg (by omega), Int.toNat_of_nonneg (by omega), ← hX16] at this
  have R16 : Hid (∀ w : World, Calls Try.prog 16 #[.int .i64 s, .int .i64 16, .int .i64 32773, .int .i64 n] w fun e w' => e = .returned (.int .i64 X16) ∧ Below w.heap.size w w') := by
    intro w
    have := refShift16_any s.toNat n.toNat (by omega) (by omega) w
    rwa [Int.toNat_of_nonneg (by omega), Int.toNat_of_nonneg (by omega), shift16_same _ _ (by omega), ← hX16] at this
  clear hX16
  by_cases h6 : 255 < s
  · have C8 := Lib.hid fun w => Shift8_no s n (by omega) (by omega) w
    go_enter Try.func6, Try.ntmps6
    go_wp2_with fail
    refine (C8.out _).mono ?_
    rintro e w1 ⟨rfl, hb1⟩
    go_wp2_with fail
    refine (C16.out _).mono ?_
    rintro e w2 ⟨rfl, hb2⟩
    go_wp2_with fail
    refine (R16.out _).mono ?_
    rintro e w3 ⟨rfl, hb3⟩
    go_wp2_with fail
    (refine (awake_any _).mono ?_; rintro e w9 ⟨rfl, hb9⟩; go_wp2_with fail; go_ret; exact ⟨rfl, by repeat (first | exact Below.refl _ _ | assumption | refine below_drewN ?_ _ | refine Below.drew ?_ | refine Below.alloc ?_ (Nat.le_refl _) _ | refine bal ?_ _ | refine bnext ?_ (by assumption))⟩)
  · obtain ⟨X8, hX8⟩ : ∃ X : Nat, X = it step8 n.toNat s.toNat := ⟨_, rfl⟩
    have C8 : Hid (∀ w : World, Calls Try.prog 15 #[.int .i64 s, .int .i64 n] w fun e w' => e = .returned (.tuple #[.int .i64 X8, .int .i64 0]) ∧ Below w.heap.size w w') := by
      intro w
      have := Shift8_ok s.toNat n.toNat (by omega) (by omega) w
      rwa [Int.toNat_of_nonneg (by omega), Int.toNat_of_nonneg (by omega), ← hX8] at this
    have R8 : Hid (∀ w : World, Calls Try.prog 16 #[.int .i64 s, .int .i64 8, .int .i64 7, .int .i64 n] w fun e w' => e = .returned (.int .i64 X8) ∧ Below w.heap.size w w') := by
      intro w
      have := refShift8_any s.toNat n.toNat (by omega) (by omega) w
      rwa [Int.toNat_of_nonneg (by omega), Int.toNat_of_nonneg (by omega), shift8_same _ _ (by omega), ← hX8] at this
    clear hX8
    go_enter Try.func6, Try.ntmps6
    go_wp2_with fail
    refine (C8.out _).mono ?_
    rintro e w1 ⟨rfl, hb1⟩
    go_wp2_with fail
    refine (C16.out _).mono ?_
    rintro e w2 ⟨rfl, hb2⟩
    go_wp2_with fail
    refine (R16.out _).mono ?_
    rintro e w3 ⟨rfl, hb3⟩
    go_wp2_with fail
    refine (R8.out _).mono ?_
    rintro e w4 ⟨rfl, hb4⟩
    go_wp2_with fail
    (refine (awake_any _).mono ?_; rintro e w9 ⟨rfl, hb9⟩; go_wp2_with fail; go_ret; exact ⟨rfl, by repeat (first | exact Below.refl _ _ | assumption | refine below_drewN ?_ _ | refine Below.drew ?_ | refine Below.alloc ?_ (Nat.le_refl _) _ | refine bal ?_ _ | refine bnext ?_ (by assumption))⟩)
end Go.Proofs.Ytjfjkmbokiinbaa
