/-
  stereo.wrong and what it calls; Part$1, Join$1.
-/
import Derived.Test.YtpjicibngdlhbaaRows
import Derived.Test.YtpjicibngdlhbaaTwoRows
import Derived.WalkSpells
import Derived.Deep.QuietTactic
import Derived.BigQuiet
import Derived.Deep.RegionHeld3
import Derived.Deep.DeepCutAuto
import Derived.OwnWalk
import Derived.KernelRfl
import Derived.StillTailTactics
namespace Go.Proofs.Ytpjicibngdlhbaa
open Go.RowKit

def outB (x : Int) : Bool := decide (x < -1099511627776) || decide (1099511627776 < x)
def anyO (l : List Int) : Bool := l.any outB
theorem wrong1_still (x : Int) (w : World) :
    Calls Try.prog 24 #[.int .i64 x] w fun e w' => e = .returned (.bool (outB x)) ∧ w' = w := by
  by_cases h : x < -1099511627776
  · have H : Hid (outB x = true) := by show outB x = true; simp [outB, h]
    go_enter Try.func24, Try.ntmps24
    go_wp2_with fail
    go_ret
    exact ⟨ret_bool H.out.symm, rfl⟩
  · have H : Hid (outB x = decide (1099511627776 < x)) := by show outB x = _; simp [outB, h]
    go_enter Try.func24, Try.ntmps24
    go_wp2_with fail
    go_ret
    exact ⟨ret_bool H.out.symm, rfl⟩

set_option maxHeartbeats 800000 in
theorem index_any (l : List Int) (A : Option Addr) (c : Nat) (w : World) (hr : Rd w A (zv l)) (hlen : l.length < 1000000) :
    Calls Try.prog 25 #[.slice A l.length c, .func (.func 24) #[] #[]] w fun e w' => ∃ r : Int, e = .returned (.int .i64 r) ∧ (0 ≤ r ↔ anyO l = true) ∧ w' = w := by
  have Hr := Lib.hid hr; clear hr
  go_enter Try.func25, Try.ntmps25
  go_wp2_with fail
  go_loop [8] (fun i => ∃ k : Nat, k ≤ l.length ∧ i = .int .i64 k ∧ Hid (anyO (l.take k) = false)) (fun i => l.length - (intOf i).toNat)
  case atStart => exact ⟨0, by omega, rfl, rfl⟩
  case round =>
    obtain ⟨k, hk, rfl, Ht⟩ := hrel
    by_cases hkk : k < l.length
    · obtain ⟨b, o, rfl, hc⟩ := Hr.out k (.int .i64 l[k]) (by simp [zv, hkk])
      have Hs : Hid (anyO (l.take (k + 1)) = outB l[k]) := by
        show _ = _
        have h := Ht.out
        unfold anyO at h ⊢
        rw [List.take_succ_eq_append_getElem hkk, List.any_append, h]; simp
      have Hm : Hid (outB l[k] = true → anyO l = true) := fun h => List.any_eq_true.2 ⟨l[k], List.getElem_mem hkk, h⟩
      generalize l[k] = x at *
      obtain ⟨ob, hob⟩ : ∃ ob, outB x = ob := ⟨_, rfl⟩
      have C := Lib.hid (wrong1_still x w)
      rw [hob] at C Hs Hm
      clear hob
      cases ob with
      | true =>
        go_wp2_with fail
        refine C.out.mono ?_
        rintro e w1 ⟨rfl, rfl⟩
        go_wp2_with fail
        go_ret
        exact ⟨_, rfl, ⟨fun _ => Hm.out (by first | rfl | trivial), fun _ => by omega⟩, rfl⟩
      | false =>
        go_wp2_with fail
        refine C.out.mono ?_
        rintro e w1 ⟨rfl, rfl⟩
        go_wp2_with fail
        go_round
        case rel => exact ⟨k + 1, by omega, by go_num, Hs.out⟩
        case measure => simp [intOf]; omega
    · obtain rfl : k = l.length := by omega
      have He : Hid (anyO l = false) := by
        have := Ht.out
        rwa [List.take_of_length_le (Nat.le_refl _)] at this
      go_wp2_with fail
      go_ret
      exact ⟨_, rfl, ⟨fun h => by omega, fun h => by rw [He.out] at h; cases h⟩, rfl⟩
theorem contains_any (l : List Int) (A : Option Addr) (c : Nat) (w : World) (hr : Rd w A (zv l)) (hlen : l.length < 1000000) :
    Calls Try.prog 23 #[.slice A l.length c, .func (.func 24) #[] #[]] w fun e w' => e = .returned (.bool (anyO l)) ∧ w' = w := by
  have C := Lib.hid (index_any l A c w hr hlen)
  clear hr
  go_enter Try.func23, Try.ntmps23
  go_wp2_with fail
  refine C.out.mono ?_
  rintro e w1 ⟨r, rfl, hr, rfl⟩
  have Hr := Lib.hid hr
  clear hr
  go_wp2_with fail
  go_ret
  refine ⟨ret_bool ?_, rfl⟩
  rw [Bool.eq_iff_iff, decide_eq_true_iff]
  exact Hr.out

/-- What is wrong with a mode and two lists. -/
def badMode (mode : Int) : Bool := (mode != 1) && (decide (mode < 8) || decide (10 < mode))
def wrongR (mode : Int) (l m : List Int) : Int := if badMode mode then 13 else if l.length ≠ m.length then 1 else if anyO l || anyO m then 10 else 0

def evN (x y : Bool) : Nat → Int
  | 0 => 0
  | 1 => bif x then 10 else 0
  | _ => bif x || y then 10 else 0
set_option maxHeartbeats 800000 in
theorem wrong_any (mode : Int) (l m : List Int) (A B : Option Addr) (c d g : Nat) (w : World) (hr : Rd w A (zv l)) (hs : Rd w B (zv m)) (hl : l.length < 1000000) (hm : m.length < 1000000)
    (h0 : w.cell? ⟨g, 0, none⟩ = some (.slice A l.length c)) (h1 : w.cell? ⟨g, 1, none⟩ = some (.slice B m.length d)) :
    Calls Try.prog 17 #[.int .i64 mode, .slice (some ⟨g, 0, none⟩) 2 2] w fun e w' => e = .returned (.int .i64 (wrongR mode l m)) ∧ w' = w := by
  have C1 := Lib.hid (contains_any l A c w hr hl)
  have C2 := Lib.hid (contains_any m B d w hs hm)
  clear hr hs
  by_cases hb : badMode mode = true
  · have HW : Hid (wrongR mode l m = 13) := if_pos hb
    have hx : mode ≠ 1 ∧ (mode < 8 ∨ 10 < mode) := by simpa [badMode] using hb
    obtain ⟨hx1, hx2⟩ := hx
    have hx3 : (mode != 1) = true := by rw [bne_iff_ne]; exact hx1
    clear hb hx1
    rcases hx2 with hx2 | hx2
    · go_enter Try.func17, Try.ntmps17
      go_wp2_with fail
      go_step3
      go_wp2_with fail
      try rw [Exit.noGoto_ret]
      go_ret
      exact ⟨ret_int (by rw [HW.out]), rfl⟩
    · have hx4 : ¬ mode < 8 := by omega
      go_enter Try.func17, Try.ntmps17
      go_wp2_with fail
      go_step3
      go_wp2_with fail
      try rw [Exit.noGoto_ret]
      go_ret
      exact ⟨ret_int (by rw [HW.out]), rfl⟩
  · have HW : Hid (wrongR mode l m = if l.length ≠ m.length then 1 else if anyO l || anyO m then 10 else 0) := if_neg hb
    have Hb := Lib.hid hb
    clear hb
    have hx : mode = 1 ∨ (8 ≤ mode ∧ mode ≤ 10) := by
      have := Hb.out
      simp [badMode] at this
      omega
    clear Hb
    obtain ⟨x, hx1⟩ : ∃ x, anyO l = x := ⟨_, rfl⟩
    obtain ⟨y, hy1⟩ : ∃ x, anyO m = x := ⟨_, rfl⟩
    rw [hx1] at C1 HW
    rw [hy1] at C2 HW
    clear hx1 hy1
    rcases hx with hx | ⟨hx1, hx2⟩
    · have hx3 : (mode != 1) = false := by rw [bne_eq_false_iff_eq]; exact hx
      clear hx
      go_enter Try.func17, Try.ntmps17
      go_wp2_with fail
      go_step3
      go_wp2_with fail
      go_step3
      go_wp2_with fail
      go_loopw [5, 20] (fun ev i wr => ∃ k : Nat, k ≤ 2 ∧ i = .int .i64 k ∧ ev = .int .i64 (evN x y k) ∧ Hid (k = 2 → l.length = m.length) ∧ wr = w) (fun _ i _ => 3 - (intOf i).toNat)
      case atStart => exact ⟨0, by omega, rfl, rfl, fun h => by omega, rfl⟩
      case round =>
        obtain ⟨k, hk, rfl, rfl, Hk, rfl⟩ := hrel
        have hkc : k = 0 ∨ k = 1 ∨ k = 2 := by omega
        rcases hkc with rfl | rfl | rfl
        · have hll : ((l.length : Int) != (l.length : Int)) = false := by simp
          cases x with
          | true =>
            go_wp2_with fail
            refine C1.out.mono ?_
            rintro e w1 ⟨rfl, rfl⟩
            go_wp2_with fail
            go_roundw
            case rel => exact ⟨1, by omega, rfl, rfl, fun h => by omega, by first | rfl | trivial⟩
            case measure => simp [intOf] <;> omega
          | false =>
            go_wp2_with fail
            refine C1.out.mono ?_
            rintro e w1 ⟨rfl, rfl⟩
            go_wp2_with fail
            go_roundw
            case rel => exact ⟨1, by omega, rfl, rfl, fun h => by omega, by first | rfl | trivial⟩
            case measure => simp [intOf] <;> omega
        · by_cases hlm : l.length = m.length
          · have hll : ((m.length : Int) != (l.length : Int)) = false := by rw [bne_eq_false_iff_eq]; omega
            have Hlm := Lib.hid hlm
            clear hlm
            cases y with
            | true =>
              go_wp2_with fail
              refine C2.out.mono ?_
              rintro e w1 ⟨rfl, rfl⟩
              go_wp2_with fail
              go_roundw
              case rel => exact ⟨2, by omega, rfl, by cases x <;> rfl, fun _ => Hlm.out, by first | rfl | trivial⟩
              case measure => simp [intOf] <;> omega
            | false =>
              go_wp2_with fail
              refine C2.out.mono ?_
              rintro e w1 ⟨rfl, rfl⟩
              go_wp2_with fail
              go_roundw
              case rel => exact ⟨2, by omega, rfl, by cases x <;> rfl, fun _ => Hlm.out, by first | rfl | trivial⟩
              case measure => simp [intOf] <;> omega
          · have hll : ((m.length : Int) != (l.length : Int)) = true := by rw [bne_iff_ne]; omega
            have HW1 : Hid (wrongR mode l m = 1) := HW.out.trans (if_pos hlm)
            clear hlm
            go_wp2_with fail
            try rw [Exit.noGoto_ret]
            go_ret
            exact ⟨ret_int (by rw [HW1.out]), rfl⟩
        · have HW1 : Hid (wrongR mode l m = evN x y 2) := by
            show _ = _
            rw [HW.out, if_neg (fun h => h (Hk.out rfl))]
            cases x <;> cases y <;> rfl
          go_wp2_with fail
          try rw [Exit.noGoto_ret]
          go_ret
          exact ⟨ret_int (by rw [HW1.out]), rfl⟩
    · have hx3 : (mode != 1) = true := by rw [bne_iff_ne]; omega
      have hx4 : ¬ mode < 8 := by omega
      have hx5 : ¬ 10 < mode := by omega
      go_enter Try.func17, Try.ntmps17
      go_wp2_with fail
      go_step3
      go_wp2_with fail
      go_step3
      go_wp2_with fail
      go_loopw [5, 20] (fun ev i wr => ∃ k : Nat, k ≤ 2 ∧ i = .int .i64 k ∧ ev = .int .i64 (evN x y k) ∧ Hid (k = 2 → l.length = m.length) ∧ wr = w) (fun _ i _ => 3 - (intOf i).toNat)
      case atStart => exact ⟨0, by omega, rfl, rfl, fun h => by omega, rfl⟩
      case round =>
        obtain ⟨k, hk, rfl, rfl, Hk, rfl⟩ := hrel
        have hkc : k = 0 ∨ k = 1 ∨ k = 2 := by omega
        rcases hkc with rfl | rfl | rfl
        · have hll : ((l.length : Int) != (l.length : Int)) = false := by simp
          cases x with
          | true =>
            go_wp2_with fail
            refine C1.out.mono ?_
            rintro e w1 ⟨rfl, rfl⟩
            go_wp2_with fail
            go_roundw
            case rel => exact ⟨1, by omega, rfl, rfl, fun h => by omega, by first | rfl | trivial⟩
            case measure => simp [intOf] <;> omega
          | false =>
            go_wp2_with fail
            refine C1.out.mono ?_
            rintro e w1 ⟨rfl, rfl⟩
            go_wp2_with fail
            go_roundw
            case rel => exact ⟨1, by omega, rfl, rfl, fun h => by omega, by first | rfl | trivial⟩
            case measure => simp [intOf] <;> omega
        · by_cases hlm : l.length = m.length
          · have hll : ((m.length : Int) != (l.length : Int)) = false := by rw [bne_eq_false_iff_eq]; omega
            have Hlm := Lib.hid hlm
            clear hlm
            cases y with
            | true =>
              go_wp2_with fail
              refine C2.out.mono ?_
              rintro e w1 ⟨rfl, rfl⟩
              go_wp2_with fail
              go_roundw
              case rel => exact ⟨2, by omega, rfl, by cases x <;> rfl, fun _ => Hlm.out, by first | rfl | trivial⟩
              case measure => simp [intOf] <;> omega
            | false =>
              go_wp2_with fail
              refine C2.out.mono ?_
              rintro e w1 ⟨rfl, rfl⟩
              go_wp2_with fail
              go_roundw
              case rel => exact ⟨2, by omega, rfl, by cases x <;> rfl, fun _ => Hlm.out, by first | rfl | trivial⟩
              case measure => simp [intOf] <;> omega
          · have hll : ((m.length : Int) != (l.length : Int)) = true := by rw [bne_iff_ne]; omega
            have HW1 : Hid (wrongR mode l m = 1) := HW.out.trans (if_pos hlm)
            clear hlm
            go_wp2_with fail
            try rw [Exit.noGoto_ret]
            go_ret
            exact ⟨ret_int (by rw [HW1.out]), rfl⟩
        · have HW1 : Hid (wrongR mode l m = evN x y 2) := by
            show _ = _
            rw [HW.out, if_neg (fun h => h (Hk.out rfl))]
            cases x <;> cases y <;> rfl
          go_wp2_with fail
          try rw [Exit.noGoto_ret]
          go_ret
          exact ⟨ret_int (by rw [HW1.out]), rfl⟩
end Go.Proofs.Ytpjicibngdlhbaa
