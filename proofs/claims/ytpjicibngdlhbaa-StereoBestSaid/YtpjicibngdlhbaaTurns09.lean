/-
  jetsamlaw09.StereoTurns: its walk.
-/
import Derived.Test.YtpjicibngdlhbaaParts09
namespace Go.Proofs.Ytpjicibngdlhbaa
open Go.RowKit

theorem wrong_eq {mode : Int} (l m : List Int) (h : badMode mode = false) : wrongR mode l m = if l.length ≠ m.length then 1 else if anyO l || anyO m then 10 else 0 := by
  unfold wrongR
  rw [h]; rfl
theorem wrong_turn (mode mode' : Int) (l m : List Int) (h : badMode mode = false) (h' : badMode mode' = false) : wrongR mode' m l = wrongR mode l m := by
  rw [wrong_eq _ _ h, wrong_eq _ _ h', Bool.or_comm]
  by_cases hl : l.length = m.length
  · rw [if_neg (c := l.length ≠ m.length) (by omega), if_neg (c := m.length ≠ l.length) (by omega)]
  · rw [if_pos (c := l.length ≠ m.length) (by omega), if_pos (c := m.length ≠ l.length) (by omega)]
theorem wrong_mode (mode mode' : Int) (l m : List Int) (h : badMode mode = false) (h' : badMode mode' = false) : wrongR mode' l m = wrongR mode l m := by
  rw [wrong_eq _ _ h, wrong_eq _ _ h']

set_option maxRecDepth 100000 in
set_option maxHeartbeats 2000000 in
theorem turns_walk (l m : List Int) (A B : Option Addr) (c d : Nat) (w : World) (hr : Rd w A (zv l)) (hs : Rd w B (zv m)) :
    Calls Try.prog 4 #[.slice A l.length c, .slice B m.length d] w fun e w' => e = .returned (.bool true) ∧ Below w.heap.size w w' := by
  have Hr := Lib.hid hr; clear hr
  have Hs := Lib.hid hs; clear hs
  by_cases h1 : 60 < l.length
  · have h1' : (60 : Int) < l.length := by omega
    go_enter Try.func4, Try.ntmps4
    go_wp2_with fail
    refine (awake_any _).mono ?_
    rintro e w5 ⟨rfl, hb5⟩
    go_wp2_with fail
    go_ret
    exact ⟨rfl, hb5⟩
  have h1' : ¬ (60 : Int) < l.length := by omega
  by_cases h2 : 60 < m.length
  · have h2' : (60 : Int) < m.length := by omega
    go_enter Try.func4, Try.ntmps4
    go_wp2_with fail
    refine (awake_any _).mono ?_
    rintro e w5 ⟨rfl, hb5⟩
    go_wp2_with fail
    go_ret
    exact ⟨rfl, hb5⟩
  have h2' : ¬ (60 : Int) < m.length := by omega
  have W9 := Lib.hid (wrong_turn 8 9 l m (by decide) (by decide))
  have W10 := Lib.hid (wrong_mode 8 10 l m (by decide) (by decide))
  have W11 := Lib.hid (wrong_turn 8 10 l m (by decide) (by decide))
  by_cases hW : wrongR 8 l m = 0
  · obtain ⟨-, hlm, o1, o2⟩ := wrong_zero hW
    have O1 := Lib.hid o1
    have O2 := Lib.hid o2
    have Hlm := Lib.hid hlm
    have HW := Lib.hid hW
    clear hlm o1 o2 hW
    have hll : ((l.length : Int) != (m.length : Int)) = false := by rw [bne_eq_false_iff_eq]; have := Hlm.out; omega
    go_enter Try.func4, Try.ntmps4
    go_wp2_with fail
    refine (part_ok 8 l m A B c d _ Hr.out Hs.out (by omega) (by omega) HW.out trivial).mono ?_
    rintro e w1 ⟨A1, c1, A2, c2, rfl, R1, R2, hb1⟩
    go_wp2_with fail
    refine (part_ok 9 m l B A d c w1 (Hs.out.below hb1) (Hr.out.below hb1) (by omega) (by omega) (W9.out.trans HW.out) trivial).mono ?_
    rintro e w2 ⟨A3, c3, A4, c4, rfl, R3, R4, hb2⟩
    have hb02 := bnext hb1 hb2
    have Q1 : Hid (Below w1.heap.size w1 w2) := hb2
    clear hb2
    go_wp2_with fail
    refine (part_ok 10 l m A B c d w2 (Hr.out.below hb02) (Hs.out.below hb02) (by omega) (by omega) (W10.out.trans HW.out) trivial).mono ?_
    rintro e w3 ⟨A5, c5, A6, c6, rfl, R5, R6, hb3⟩
    have hb03 := bnext hb02 hb3
    have Q2 : Hid (Below w2.heap.size w2 w3) := hb3
    clear hb3
    go_wp2_with fail
    refine (part_ok 10 m l B A d c w3 (Hs.out.below hb03) (Hr.out.below hb03) (by omega) (by omega) (W11.out.trans HW.out) trivial).mono ?_
    rintro e w4 ⟨A7, c7, A8, c8, rfl, R7, R8, hb4⟩
    have hb04 := bnext hb03 hb4
    have Q3 : Hid (Below w3.heap.size w3 w4) := hb4
    have Q23 : Hid (Below w2.heap.size w2 w4) := bnext Q2.out Q3.out
    have Q123 : Hid (Below w1.heap.size w1 w4) := bnext Q1.out Q23.out
    clear hb4
    go_wp2_with fail
    go_loopw [17] (fun i wr => ∃ k : Nat, k ≤ l.length ∧ i = .int .i64 k ∧ Hid (Below w4.heap.size w4 wr)) (fun i _ => l.length - (intOf i).toNat)
    case atStart => exact ⟨0, by omega, rfl, Below.refl _ _⟩
    case round =>
      obtain ⟨k, hk, rfl, Hb⟩ := hrel
      by_cases hkk : k < l.length
      · have hkm : k < m.length := by have := Hlm.out; omega
        obtain ⟨b1, o1, rfl, hc1⟩ := ((R1.out.below Q123.out).below Hb.out) k _ (zip_get _ l m k hkk hkm)
        obtain ⟨b2, o2, rfl, hc2⟩ := ((R2.out.below Q123.out).below Hb.out) k _ (zip_get _ l m k hkk hkm)
        obtain ⟨b3, o3, rfl, hc3⟩ := ((R3.out.below Q23.out).below Hb.out) k _ (zip_get _ m l k hkm hkk)
        obtain ⟨b4, o4, rfl, hc4⟩ := ((R4.out.below Q23.out).below Hb.out) k _ (zip_get _ m l k hkm hkk)
        obtain ⟨b5, o5, rfl, hc5⟩ := ((R5.out.below Q3.out).below Hb.out) k _ (zip_get _ l m k hkk hkm)
        obtain ⟨b6, o6, rfl, hc6⟩ := ((R6.out.below Q3.out).below Hb.out) k _ (zip_get _ l m k hkk hkm)
        obtain ⟨b7, o7, rfl, hc7⟩ := (R7.out.below Hb.out) k _ (zip_get _ m l k hkm hkk)
        obtain ⟨b8, o8, rfl, hc8⟩ := (R8.out.below Hb.out) k _ (zip_get _ m l k hkm hkk)
        have Bx := outB_no (O1.out _ (List.getElem_mem hkk))
        have By := outB_no (O2.out _ (List.getElem_mem hkm))
        generalize l[k] = x at *
        generalize m[k] = y at *
        rw [show (twoN 8 x y).1 = x from by simp [twoN]] at hc1
        rw [show (twoN 8 x y).2 = x - y from by simp [twoN]] at hc2
        rw [show (twoN 9 y x).1 = y - x from by simp [twoN]] at hc3
        rw [show (twoN 9 y x).2 = x from by simp [twoN]] at hc4
        rw [show (twoN 10 x y).1 = (x + y) / 2 from by simp [twoN]] at hc5
        rw [show (twoN 10 x y).2 = x - y from by simp [twoN]] at hc6
        rw [show (twoN 10 y x).1 = (x + y) / 2 from by simp [twoN, Int.add_comm]] at hc7
        rw [show (twoN 10 y x).2 = y - x from by simp [twoN]] at hc8
        have en : IntKind.i64.wrap (-(y - x)) = x - y := by rw [IntKind.wrap_i64]; omega
        obtain ⟨s, hs⟩ : ∃ s, x - y = s := ⟨_, rfl⟩
        obtain ⟨t, ht⟩ : ∃ s, y - x = s := ⟨_, rfl⟩
        obtain ⟨h, hh⟩ : ∃ s, (x + y) / 2 = s := ⟨_, rfl⟩
        rw [hs] at hc2 hc6 en
        rw [ht] at hc3 hc8 en
        rw [hh] at hc5 hc7
        have en3 : wrap64 (-t) = s := by unfold wrap64; rw [← en, IntKind.wrap_i64]
        have hss : (s != s) = false := by simp
        have hkm' : (k : Int) < m.length := by omega
        have hk0 : (0 : Int) ≤ (k : Int) := by omega
        have hkl' : (k : Int) < l.length := by omega
        clear hs ht hh Bx By
        go_wp2_with fail
        go_quiet (fail)
        go_wp2_with fail
        go_roundw
        case rel => exact ⟨k + 1, by omega, by go_num, by show Below _ _ _; have := Hb.out; repeat (first | exact Below.refl _ _ | assumption | refine below_drewN ?_ _ | refine Below.drew ?_ | refine Below.alloc ?_ (Nat.le_refl _) _ | refine bal ?_ _ | refine bnext ?_ (by assumption))⟩
        case measure => simp [intOf] <;> omega
      · obtain rfl : k = l.length := by omega
        have hb5 := bnext hb04 Hb.out
        rcases Nat.eq_zero_or_pos l.length with h0 | h0
        · have h0' : ¬ (0 : Int) < l.length := by omega
          go_wp2_with fail
          refine (awake_any _).mono ?_
          rintro e w5 ⟨rfl, hb6⟩
          go_wp2_with fail
          go_ret
          exact ⟨rfl, bnext hb5 hb6⟩
        · have h0' : (0 : Int) < l.length := by omega
          go_wp2_with fail
          refine (awake_any _).mono ?_
          rintro e w5 ⟨rfl, hb6⟩
          go_wp2_with fail
          go_ret
          exact ⟨rfl, bnext hb5 hb6⟩
  · obtain ⟨f, hf⟩ : ∃ f, wrongR 8 l m = f := ⟨_, rfl⟩
    have hf0 : (f != 0) = true := by rw [bne_iff_ne, ← hf]; exact hW
    have hf1 : (f == 0) = false := by rw [beq_eq_false_iff_ne, ← hf]; exact hW
    have Hf := Lib.hid hf
    have HW := Lib.hid hW
    clear hf hW
    go_enter Try.func4, Try.ntmps4
    go_wp2_with fail
    refine (part_no 8 l m A B c d _ Hr.out Hs.out (by omega) (by omega) HW.out).mono ?_
    rintro e w1 ⟨rfl, hb1⟩
    rw [Hf.out]
    go_wp2_with fail
    refine (part_no 9 m l B A d c _ (Hs.out.below hb1) (Hr.out.below hb1) (by omega) (by omega) (by rw [W9.out]; exact HW.out)).mono ?_
    rintro e w2 ⟨rfl, hb2⟩
    rw [W9.out, Hf.out]
    have hb02 := bnext hb1 hb2
    clear hb1 hb2
    go_wp2_with fail
    refine (part_no 10 l m A B c d _ (Hr.out.below hb02) (Hs.out.below hb02) (by omega) (by omega) (by rw [W10.out]; exact HW.out)).mono ?_
    rintro e w3 ⟨rfl, hb3⟩
    rw [W10.out, Hf.out]
    have hb03 := bnext hb02 hb3
    clear hb02 hb3
    go_wp2_with fail
    refine (part_no 10 m l B A d c _ (Hs.out.below hb03) (Hr.out.below hb03) (by omega) (by omega) (by rw [W11.out]; exact HW.out)).mono ?_
    rintro e w4 ⟨rfl, hb4⟩
    rw [W11.out, Hf.out]
    have hb04 := bnext hb03 hb4
    clear hb03 hb4
    go_upto_region 9 with fail
    rcases Nat.eq_zero_or_pos l.length with h0 | h0
    · have h0' : ¬ (0 : Int) < l.length := by omega
      have h0e : ((0 : Int) == (l.length : Int)) = true := by rw [beq_iff_eq]; omega
      rw [h0]
      clear h0 h0' h0e
      go_wp2_with fail
      go_loopw [17] (fun i wr => i = .int .i64 0 ∧ w4 = wr) (fun i _ => 0)
      case atStart => exact ⟨rfl, rfl⟩
      case round =>
        obtain ⟨rfl, rfl⟩ := hrel
        go_wp2_with fail
        refine (awake_any _).mono ?_
        rintro e w5 ⟨rfl, hb6⟩
        go_wp2_with fail
        go_ret
        exact ⟨rfl, bnext hb04 hb6⟩
    · have h0' : (0 : Int) < l.length := by omega
      have h0e : ((0 : Int) == (l.length : Int)) = false := by rw [beq_eq_false_iff_ne]; omega
      go_wp2_with fail
      go_loopw [17] (fun i wr => i = .int .i64 0 ∧ w4 = wr) (fun i _ => 0)
      case atStart => exact ⟨rfl, rfl⟩
      case round =>
        obtain ⟨rfl, rfl⟩ := hrel
        go_wp2_with fail
        refine (awake_any _).mono ?_
        rintro e w5 ⟨rfl, hb6⟩
        go_wp2_with fail
        go_ret
        exact ⟨rfl, bnext hb04 hb6⟩
end Go.Proofs.Ytpjicibngdlhbaa
