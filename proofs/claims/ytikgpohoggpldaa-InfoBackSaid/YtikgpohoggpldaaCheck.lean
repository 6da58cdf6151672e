/-
  info.Check: what is wrong with an info.
-/
import Derived.Test.YtikgpohoggpldaaInfAw
namespace Go.Proofs.Ytikgpohoggpldaa
open Go.RowKit

theorem within_still (n a b : Int) (w : World) :
    Calls Try.prog 29 #[.int .i64 n, .int .i64 a, .int .i64 b] w fun e w' => e = .returned (.bool (decide (a ≤ n ∧ n ≤ b))) ∧ w' = w := by
  by_cases h1 : a ≤ n
  · by_cases h2 : n ≤ b
    · have h : Hid (decide (a ≤ n ∧ n ≤ b) = true) := decide_eq_true ⟨h1, h2⟩
      go_enter Try.func29, Try.ntmps29
      go_wp2_with fail
      go_ret
      exact ⟨ret_bool (by simp <;> omega), rfl⟩
    · have h : Hid (decide (a ≤ n ∧ n ≤ b) = false) := decide_eq_false (fun h => h2 h.2)
      go_enter Try.func29, Try.ntmps29
      go_wp2_with fail
      go_ret
      exact ⟨ret_bool (by simp <;> omega), rfl⟩
  · have h : Hid (decide (a ≤ n ∧ n ≤ b) = false) := decide_eq_false (fun h => h1 h.1)
    go_enter Try.func29, Try.ntmps29
    go_wp2_with fail
    go_ret
    exact ⟨ret_bool (by simp <;> omega), rfl⟩

def chk : Bool → Int
  | true => 0
  | false => 10
/-- May an info be? -/
def mayB (p0 p1 p2 mn mx mf xf tt : Int) : Bool :=
  ((decide (1 ≤ p0 ∧ p0 ≤ 1048575) && decide (1 ≤ p1 ∧ p1 ≤ 8) && decide (4 ≤ p2 ∧ p2 ≤ 32)) && (decide (16 ≤ mn ∧ mn ≤ 65535) && decide (mn ≤ mx ∧ mx ≤ 65535))) &&
    ((decide (0 ≤ mf ∧ mf ≤ 16777215) && decide (0 ≤ xf ∧ xf ≤ 16777215)) && ((mf == 0) || (xf == 0) || decide (mf ≤ xf))) && decide (0 ≤ tt ∧ tt ≤ 68719476735)

set_option maxHeartbeats 2000000 in
theorem check_any (p0 p1 p2 mn mx mf xf tt : Int) (s : Nat → Int) (w : World) :
    Calls Try.prog 19 #[.agg (ofV p0 p1 p2 mn mx mf xf tt s)] w fun e w' => e = .returned (.int .i64 (chk (mayB p0 p1 p2 mn mx mf xf tt))) ∧ Below w.heap.size w w' := by
  have H1 := Lib.hid (within_still p0 1 1048575)
  have H2 := Lib.hid (within_still p1 1 8)
  have H3 := Lib.hid (within_still p2 4 32)
  have H4 := Lib.hid (within_still mn 16 65535)
  have H5 := Lib.hid (within_still mx mn 65535)
  have H6 := Lib.hid (within_still mf 0 16777215)
  have H7 := Lib.hid (within_still xf 0 16777215)
  have H8 := Lib.hid (within_still tt 0 68719476735)
  obtain ⟨r, hr⟩ : ∃ r, mayB p0 p1 p2 mn mx mf xf tt = r := ⟨_, rfl⟩
  have hr' := hr
  unfold mayB at hr'
  obtain ⟨b1, h1⟩ : ∃ b, decide (1 ≤ p0 ∧ p0 ≤ 1048575) = b := ⟨_, rfl⟩
  obtain ⟨b2, h2⟩ : ∃ b, decide (1 ≤ p1 ∧ p1 ≤ 8) = b := ⟨_, rfl⟩
  obtain ⟨b3, h3⟩ : ∃ b, decide (4 ≤ p2 ∧ p2 ≤ 32) = b := ⟨_, rfl⟩
  obtain ⟨b4, h4⟩ : ∃ b, decide (16 ≤ mn ∧ mn ≤ 65535) = b := ⟨_, rfl⟩
  obtain ⟨b5, h5⟩ : ∃ b, decide (mn ≤ mx ∧ mx ≤ 65535) = b := ⟨_, rfl⟩
  obtain ⟨b6, h6⟩ : ∃ b, decide (0 ≤ mf ∧ mf ≤ 16777215) = b := ⟨_, rfl⟩
  obtain ⟨b7, h7⟩ : ∃ b, decide (0 ≤ xf ∧ xf ≤ 16777215) = b := ⟨_, rfl⟩
  obtain ⟨b8, h8⟩ : ∃ b, decide (0 ≤ tt ∧ tt ≤ 68719476735) = b := ⟨_, rfl⟩
  obtain ⟨z1, hz1⟩ : ∃ b, (mf == 0) = b := ⟨_, rfl⟩
  obtain ⟨z2, hz2⟩ : ∃ b, (xf == 0) = b := ⟨_, rfl⟩
  obtain ⟨z3, hz3⟩ : ∃ b, decide (mf ≤ xf) = b := ⟨_, rfl⟩
  rw [h1, h2, h3, h4, h5, h6, h7, h8, hz1, hz2, hz3] at hr'
  rw [h1] at H1; rw [h2] at H2; rw [h3] at H3; rw [h4] at H4; rw [h5] at H5; rw [h6] at H6; rw [h7] at H7; rw [h8] at H8
  have HR := Lib.hid hr
  have HR' := Lib.hid hr'
  clear hr hr' h1 h2 h3 h4 h5 h6 h7 h8
  obtain ⟨w0, hw0, hb0, hI⟩ : ∃ w0, w.alloc (.cells (ofV p0 p1 p2 mn mx mf xf tt s) 34) = w0 ∧ Below w.heap.size w w0 ∧ InfAt w0 w.heap.size p0 p1 p2 mn mx mf xf tt s := ⟨_, rfl, by repeat (first | exact Below.refl _ _ | assumption | refine below_drewN ?_ _ | refine Below.drew ?_ | refine Below.alloc ?_ (Nat.le_refl _) _ | refine bal ?_ _ | refine bnext ?_ (by assumption)), InfAt.new rfl⟩
  simp only [ofV] at hw0 ⊢
  have hj0 := hI.cell 0 (.int .i64 p0) rfl
  have hj1 := hI.cell 1 (.int .i64 p1) rfl
  have hj2 := hI.cell 2 (.int .i64 p2) rfl
  have hj3 := hI.cell 3 (.int .i64 mn) rfl
  have hj4 := hI.cell 4 (.int .i64 mx) rfl
  have hj5 := hI.cell 5 (.int .i64 mf) rfl
  have hj6 := hI.cell 6 (.int .i64 xf) rfl
  have hj7 := hI.cell 7 (.int .i64 tt) rfl
  clear hI
  go_enter Try.func19, Try.ntmps19
  go_upto_region 1 with fail
  try clear hw0
  go_cut [3] (fun v wx => v = .bool (b1 && b2 && b3) ∧ w0 = wx)
  case first =>
    go_wp2_with fail
    refine (H1.out _).mono ?_
    rintro e w1 ⟨rfl, rfl⟩
    cases b1 with
    | false =>
      go_wp2_with fail
      go_meet
      exact ⟨rfl, rfl⟩
    | true =>
      go_wp2_with fail
      refine (H2.out _).mono ?_
      rintro e w2 ⟨rfl, rfl⟩
      cases b2 with
      | false =>
        go_wp2_with fail
        go_meet
        exact ⟨rfl, rfl⟩
      | true =>
        go_wp2_with fail
        refine (H3.out _).mono ?_
        rintro e w3 ⟨rfl, rfl⟩
        go_wp2_with fail
        go_meet
        exact ⟨rfl, rfl⟩
  case rest =>
    obtain ⟨rfl, rfl⟩ := hcut
    obtain ⟨P, hP⟩ : ∃ P, (b1 && b2 && b3) = P := ⟨_, rfl⟩
    rw [hP] at HR' ⊢
    clear hP H1 H2 H3
    go_upto_region 2 with fail
    go_cut [4] (fun v wx => v = .bool (b4 && b5) ∧ w0 = wx)
    case first =>
      go_wp2_with fail
      refine (H4.out _).mono ?_
      rintro e w1 ⟨rfl, rfl⟩
      cases b4 with
      | false =>
        go_wp2_with fail
        go_meet
        exact ⟨rfl, rfl⟩
      | true =>
        go_wp2_with fail
        refine (H5.out _).mono ?_
        rintro e w2 ⟨rfl, rfl⟩
        go_wp2_with fail
        go_meet
        exact ⟨rfl, rfl⟩
    case rest =>
      obtain ⟨rfl, rfl⟩ := hcut
      obtain ⟨Q, hQ⟩ : ∃ P, (b4 && b5) = P := ⟨_, rfl⟩
      rw [hQ] at HR' ⊢
      clear hQ H4 H5
      go_upto_region 3 with fail
      go_cut [5] (fun v wx => v = .bool (b6 && b7) ∧ w0 = wx)
      case first =>
        go_wp2_with fail
        refine (H6.out _).mono ?_
        rintro e w1 ⟨rfl, rfl⟩
        cases b6 with
        | false =>
          go_wp2_with fail
          go_meet
          exact ⟨rfl, rfl⟩
        | true =>
          go_wp2_with fail
          refine (H7.out _).mono ?_
          rintro e w2 ⟨rfl, rfl⟩
          go_wp2_with fail
          go_meet
          exact ⟨rfl, rfl⟩
      case rest =>
        obtain ⟨rfl, rfl⟩ := hcut
        obtain ⟨F, hF⟩ : ∃ P, (b6 && b7) = P := ⟨_, rfl⟩
        rw [hF] at HR' ⊢
        clear hF H6 H7
        go_upto_region 4 with fail
        go_cut [5] (fun v wx => v = .bool (F && (z1 || z2 || z3)) ∧ w0 = wx)
        case first =>
          cases F <;> cases z1 <;> cases z2 <;> (go_wp2_with fail; go_meet; exact ⟨rfl, rfl⟩)
        case rest =>
          obtain ⟨rfl, rfl⟩ := hcut
          obtain ⟨G, hG⟩ : ∃ P, (F && (z1 || z2 || z3)) = P := ⟨_, rfl⟩
          rw [hG] at HR' ⊢
          clear hG hz1 hz2 hz3
          cases P with
          | false =>
            go_wp2_with fail
            go_ret
            exact ⟨ret_int (by rw [HR.out, ← HR'.out]; rfl), hb0⟩
          | true =>
            cases Q with
            | false =>
              go_wp2_with fail
              go_ret
              exact ⟨ret_int (by rw [HR.out, ← HR'.out]; rfl), hb0⟩
            | true =>
              cases G with
              | false =>
                go_wp2_with fail
                go_ret
                exact ⟨ret_int (by rw [HR.out, ← HR'.out]; rfl), hb0⟩
              | true =>
                cases b8 with
                | false =>
                  go_wp2_with fail
                  refine (H8.out _).mono ?_
                  rintro e w1 ⟨rfl, rfl⟩
                  go_wp2_with fail
                  go_ret
                  exact ⟨ret_int (by rw [HR.out, ← HR'.out]; rfl), hb0⟩
                | true =>
                  go_wp2_with fail
                  refine (H8.out _).mono ?_
                  rintro e w1 ⟨rfl, rfl⟩
                  go_wp2_with fail
                  go_ret
                  exact ⟨ret_int (by rw [HR.out, ← HR'.out]; rfl), hb0⟩
end Go.Proofs.Ytikgpohoggpldaa
