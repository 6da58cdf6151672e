/-
  jetsamlaw09.in, stereo.Extra; StereoBits' walk.
-/
import Derived.Test.YtpjicibngdlhbaaParts09
namespace Go.Proofs.Ytpjicibngdlhbaa
open Go.RowKit

def inB (x : Int) (k : Nat) : Bool := decide (-(2 ^ k : Int) ≤ x) && decide (x < 2 ^ k)
theorem pow2_le (k : Nat) (h : k ≤ 40) : (1 : Int) ≤ 2 ^ k ∧ (2 : Int) ^ k ≤ 1099511627776 := by
  have h1 : (2 : Nat) ^ k ≤ 2 ^ 40 := Nat.pow_le_pow_right (by omega) h
  have h2 : 0 < (2 : Nat) ^ k := Nat.two_pow_pos k
  have h3 : ((2 ^ k : Nat) : Int) = (2 : Int) ^ k := by simp
  omega
theorem in_any (x : Int) (k : Nat) (hk : k ≤ 40) (w : World) :
    Calls Try.prog 11 #[.int .i64 x, .int .i64 ((k : Int) + 1)] w fun e w' => e = .returned (.bool (inB x k)) ∧ w' = w := by
  obtain ⟨p1, p2⟩ := pow2_le k hk
  have hw : wrap64 ((2 : Int) ^ k) = (2 : Int) ^ k := by unfold wrap64; omega
  by_cases h1 : -(2 ^ k : Int) ≤ x
  · have H : Hid (inB x k = decide (x < 2 ^ k)) := by show _ = _; simp [inB, h1]
    go_enter Try.func11, Try.ntmps11
    go_wp2_with fail
    go_ret
    exact ⟨ret_bool H.out.symm, rfl⟩
  · have H : Hid (inB x k = false) := by show _ = _; simp [inB, h1]
    go_enter Try.func11, Try.ntmps11
    go_wp2_with fail
    go_ret
    exact ⟨ret_bool H.out.symm, rfl⟩

def sideB (mode ch : Int) : Bool := ((mode == 9) && (ch == 0)) || (((mode == 8) || (mode == 10)) && (ch == 1))
def exN (b : Bool) : Nat := match b with | true => 1 | false => 0
theorem extra_any (mode ch : Int) (w : World) :
    Calls Try.prog 12 #[.int .i64 mode, .int .i64 ch] w fun e w' => e = .returned (.int .i64 (exN (sideB mode ch) : Nat)) ∧ w' = w := by
  obtain ⟨m9, h9⟩ : ∃ b, (mode == 9) = b := ⟨_, rfl⟩
  obtain ⟨m8, h8⟩ : ∃ b, (mode == 8) = b := ⟨_, rfl⟩
  obtain ⟨m10, h10⟩ : ∃ b, (mode == 10) = b := ⟨_, rfl⟩
  obtain ⟨c0, h0⟩ : ∃ b, (ch == 0) = b := ⟨_, rfl⟩
  obtain ⟨c1, h1⟩ : ∃ b, (ch == 1) = b := ⟨_, rfl⟩
  have H : Hid (sideB mode ch = ((m9 && c0) || ((m8 || m10) && c1))) := by
    show sideB mode ch = _
    unfold sideB; rw [h9, h8, h10, h0, h1]
  cases m9 <;> cases m8 <;> cases m10 <;> cases c0 <;> cases c1 <;> (go_enter Try.func12, Try.ntmps12; go_wp2_with fail; go_ret; exact ⟨ret_int (by rw [H.out]; rfl), rfl⟩)

theorem inB_iff (x : Int) (k : Nat) : inB x k = true ↔ -(2 ^ k : Int) ≤ x ∧ x < 2 ^ k := by simp [inB]
theorem bits_two (mode x y : Int) (k : Nat) (hx : inB x k = true) (hy : inB y k = true) : inB (twoN mode x y).1 (k + exN (sideB mode 0)) = true ∧ inB (twoN mode x y).2 (k + exN (sideB mode 1)) = true := by
  obtain ⟨x1, x2⟩ := (inB_iff x k).1 hx
  obtain ⟨y1, y2⟩ := (inB_iff y k).1 hy
  have hp : (2 : Int) ^ (k + 1) = 2 * 2 ^ k := by rw [Int.pow_succ]; omega
  by_cases h8 : mode = 8
  · subst h8
    have e0 : exN (sideB 8 0) = 0 := by decide
    have e1 : exN (sideB 8 1) = 1 := by decide
    rw [e0, e1, inB_iff, inB_iff, hp, Nat.add_zero]
    simp only [twoN, if_pos]
    omega
  by_cases h9 : mode = 9
  · subst h9
    have e0 : exN (sideB 9 0) = 1 := by decide
    have e1 : exN (sideB 9 1) = 0 := by decide
    rw [e0, e1, inB_iff, inB_iff, hp, Nat.add_zero]
    have e : twoN 9 x y = (x - y, y) := rfl
    rw [e]
    simp only []
    omega
  by_cases h10 : mode = 10
  · subst h10
    have e0 : exN (sideB 10 0) = 0 := by decide
    have e1 : exN (sideB 10 1) = 1 := by decide
    rw [e0, e1, inB_iff, inB_iff, hp, Nat.add_zero]
    have e : twoN 10 x y = ((x + y) / 2, x - y) := rfl
    rw [e]
    simp only []
    omega
  · have b8 : (mode == 8) = false := by rw [beq_eq_false_iff_ne]; exact h8
    have b9 : (mode == 9) = false := by rw [beq_eq_false_iff_ne]; exact h9
    have b10 : (mode == 10) = false := by rw [beq_eq_false_iff_ne]; exact h10
    have e0 : exN (sideB mode 0) = 0 := by unfold sideB; rw [b8, b9, b10]; rfl
    have e1 : exN (sideB mode 1) = 0 := by unfold sideB; rw [b8, b9, b10]; rfl
    have e : twoN mode x y = (x, y) := by unfold twoN; rw [if_neg h8, if_neg h9, if_neg h10]
    rw [e0, e1, e]
    exact ⟨hx, hy⟩
theorem inB_out {x : Int} {k : Nat} (hk : k ≤ 40) (h : inB x k = true) : outB x = false := by
  obtain ⟨h1, h2⟩ := (inB_iff x k).1 h
  obtain ⟨p1, p2⟩ := pow2_le k hk
  simp [outB]; omega

set_option maxRecDepth 100000 in
set_option maxHeartbeats 1000000 in
theorem bits_walk (mode dp : Int) (l m : List Int) (A B : Option Addr) (c d : Nat) (w : World) (hr : Rd w A (zv l)) (hs : Rd w B (zv m)) :
    Calls Try.prog 5 #[.agg #[.int .i64 mode, .int .i64 dp], .slice A l.length c, .slice B m.length d] w fun e w' => e = .returned (.bool true) ∧ Below w.heap.size w w' := by
  have Hr := Lib.hid hr; clear hr
  have Hs := Lib.hid hs; clear hs
  by_cases h1 : 60 < l.length
  · have h1' : (60 : Int) < l.length := by omega
    go_enter Try.func5, Try.ntmps5
    go_wp2_with fail
    refine (awake_any _).mono ?_
    rintro e w5 ⟨rfl, hb5⟩
    go_wp2_with fail
    go_ret
    exact ⟨rfl, bnext (by repeat (first | exact Below.refl _ _ | assumption | refine below_drewN ?_ _ | refine Below.drew ?_ | refine Below.alloc ?_ (Nat.le_refl _) _ | refine bal ?_ _ | refine bnext ?_ (by assumption))) hb5⟩
  have h1' : ¬ (60 : Int) < l.length := by omega
  by_cases h2 : l.length = m.length
  · have h2' : ((l.length : Int) != (m.length : Int)) = false := by rw [bne_eq_false_iff_eq]; omega
    have Hlm := Lib.hid h2
    clear h2
    by_cases h3 : dp < 4
    · go_enter Try.func5, Try.ntmps5
      go_wp2_with fail
      refine (awake_any _).mono ?_
      rintro e w5 ⟨rfl, hb5⟩
      go_wp2_with fail
      go_ret
      exact ⟨rfl, bnext (by repeat (first | exact Below.refl _ _ | assumption | refine below_drewN ?_ _ | refine Below.drew ?_ | refine Below.alloc ?_ (Nat.le_refl _) _ | refine bal ?_ _ | refine bnext ?_ (by assumption))) hb5⟩
    by_cases h4 : 32 < dp
    · go_enter Try.func5, Try.ntmps5
      go_wp2_with fail
      refine (awake_any _).mono ?_
      rintro e w5 ⟨rfl, hb5⟩
      go_wp2_with fail
      go_ret
      exact ⟨rfl, bnext (by repeat (first | exact Below.refl _ _ | assumption | refine below_drewN ?_ _ | refine Below.drew ?_ | refine Below.alloc ?_ (Nat.le_refl _) _ | refine bal ?_ _ | refine bnext ?_ (by assumption))) hb5⟩
    obtain ⟨k, hk⟩ : ∃ k : Nat, dp = (k : Int) + 1 := ⟨(dp - 1).toNat, by omega⟩
    have hk31 : k ≤ 31 := by omega
    have IC := Lib.hid (fun x W => in_any x k (by omega) W)
    rw [← hk] at IC
    have Hk := Lib.hid hk
    clear hk
    obtain ⟨w0, hw0, hb0, hcm, hcd⟩ : ∃ w0, w.alloc (.cells #[.int .i64 mode, .int .i64 dp] 32) = w0 ∧ Below w.heap.size w w0 ∧ w0.cell? ⟨w.heap.size, 0, none⟩ = some (.int .i64 mode) ∧ w0.cell? ⟨w.heap.size, 1, none⟩ = some (.int .i64 dp) := ⟨_, rfl, by repeat (first | exact Below.refl _ _ | assumption | refine below_drewN ?_ _ | refine Below.drew ?_ | refine Below.alloc ?_ (Nat.le_refl _) _ | refine bal ?_ _ | refine bnext ?_ (by assumption)), by go_simp, by go_simp⟩
    have Hr0 : Hid (Rd w0 A (zv l)) := Hr.out.below hb0
    have Hs0 : Hid (Rd w0 B (zv m)) := Hs.out.below hb0
    go_enter Try.func5, Try.ntmps5
    go_wp2_with fail
    clear hw0 hcm hcd
    go_loopw [9] (fun i wr => ∃ j : Nat, j ≤ l.length ∧ i = .int .i64 j ∧ w0 = wr ∧ Hid (∀ q, (h : q < l.length) → (h' : q < m.length) → q < j → inB l[q] k = true ∧ inB m[q] k = true)) (fun i _ => l.length - (intOf i).toNat)
    case atStart => exact ⟨0, by omega, rfl, rfl, fun q _ _ h => by omega⟩
    case round =>
      obtain ⟨j, hj, rfl, rfl, Hin⟩ := hrel
      by_cases hjj : j < l.length
      · have hjm : j < m.length := by have := Hlm.out; omega
        have hjm' : (j : Int) < m.length := by omega
        obtain ⟨b1, o1, rfl, hc1⟩ := Hr0.out j (.int .i64 l[j]) (by simp [zv, hjj])
        obtain ⟨b2, o2, rfl, hc2⟩ := Hs0.out j (.int .i64 m[j]) (by simp [zv, hjm])
        have Hs1 : Hid (inB l[j] k = true → inB m[j] k = true → ∀ q, (h : q < l.length) → (h' : q < m.length) → q < j + 1 → inB l[q] k = true ∧ inB m[q] k = true) := by
          intro e1 e2 q h h' hq
          rcases Nat.lt_or_ge q j with h3 | h3
          · exact Hin.out q h h' h3
          · obtain rfl : q = j := by omega
            exact ⟨e1, e2⟩
        generalize l[j] = x at *
        generalize m[j] = y at *
        have C1 := Lib.hid (IC.out x)
        have C2 := Lib.hid (IC.out y)
        obtain ⟨bx, hbx⟩ : ∃ b, inB x k = b := ⟨_, rfl⟩
        obtain ⟨by_, hby⟩ : ∃ b, inB y k = b := ⟨_, rfl⟩
        rw [hbx] at C1 Hs1
        rw [hby] at C2 Hs1
        clear hbx hby
        cases bx with
        | false =>
          go_wp2_with fail
          refine (C1.out _).mono ?_
          rintro e w3 ⟨rfl, rfl⟩
          go_wp2_with fail
          refine (awake_any _).mono ?_
          rintro e w5 ⟨rfl, hb5⟩
          go_wp2_with fail
          go_ret
          exact ⟨rfl, bnext hb0 hb5⟩
        | true =>
          cases by_ with
          | false =>
            go_wp2_with fail
            refine (C1.out _).mono ?_
            rintro e w3 ⟨rfl, rfl⟩
            go_wp2_with fail
            refine (C2.out _).mono ?_
            rintro e w3 ⟨rfl, rfl⟩
            go_wp2_with fail
            refine (awake_any _).mono ?_
            rintro e w5 ⟨rfl, hb5⟩
            go_wp2_with fail
            go_ret
            exact ⟨rfl, bnext hb0 hb5⟩
          | true =>
            go_wp2_with fail
            refine (C1.out _).mono ?_
            rintro e w3 ⟨rfl, rfl⟩
            go_wp2_with fail
            refine (C2.out _).mono ?_
            rintro e w3 ⟨rfl, rfl⟩
            go_wp2_with fail
            go_roundw
            case rel => exact ⟨j + 1, by omega, by go_num, by first | rfl | trivial, Hs1.out (by first | rfl | trivial) (by first | rfl | trivial)⟩
            case measure => simp [intOf] <;> omega
      · obtain rfl : j = l.length := by omega
        have Hin2 : Hid (∀ q, (h : q < l.length) → (h' : q < m.length) → inB l[q] k = true ∧ inB m[q] k = true) := fun q h h' => Hin.out q h h' h
        clear Hin hjj hj IC
        go_wp2_with fail
        go_loopw [10] (fun i wr => ∃ n : Nat, n ≤ 4 ∧ i = .int .i64 ((n : Int) - 1) ∧ w0 = wr) (fun i _ => (3 - intOf i).toNat)
        case atStart => exact ⟨0, by omega, rfl, rfl⟩
        case round =>
          obtain ⟨n, hn, rfl, rfl⟩ := hrel
          by_cases hnn : n < 4
          · obtain ⟨ch, hch⟩ : ∃ ch : Int, (n : Int) - 1 = ch := ⟨_, rfl⟩
            rw [hch]
            have hch3 : ch < 3 := by omega
            have hch1 : -1 ≤ ch := by omega
            have Hch := Lib.hid hch
            clear hch
            have EC := Lib.hid (fun W => extra_any mode ch W)
            obtain ⟨m9, h9⟩ : ∃ b, (mode == 9) = b := ⟨_, rfl⟩
            obtain ⟨m8, h8⟩ : ∃ b, (mode == 8) = b := ⟨_, rfl⟩
            obtain ⟨m10, h10⟩ : ∃ b, (mode == 10) = b := ⟨_, rfl⟩
            obtain ⟨c0, h0⟩ : ∃ b, (ch == 0) = b := ⟨_, rfl⟩
            obtain ⟨c1, hc1⟩ : ∃ b, (ch == 1) = b := ⟨_, rfl⟩
            have H : Hid (sideB mode ch = ((m9 && c0) || ((m8 || m10) && c1))) := by
              show sideB mode ch = _
              unfold sideB; rw [h9, h8, h10, h0, hc1]
            obtain ⟨sd, hsd⟩ : ∃ sd, sideB mode ch = sd := ⟨_, rfl⟩
            rw [hsd] at EC H
            clear hsd
            go_upto_region 13 with fail
            go_cut [11] (fun v wx => v = .bool sd ∧ w0 = wx)
            case first =>
              cases m9 <;> cases m8 <;> cases m10 <;> cases c0 <;> cases c1 <;> (go_wp2_with fail; go_meet; exact ⟨by rw [H.out]; rfl, rfl⟩)
            case rest =>
              obtain ⟨rfl, rfl⟩ := hcut
              clear h9 h8 h10 h0 hc1 H
              cases sd with
              | true =>
                have ec : ∀ W, Calls Try.prog 12 #[.int .i64 mode, .int .i64 ch] W fun e w' => e = .returned (.int .i64 1) ∧ w' = W := EC.out
                have EC2 := Lib.hid ec
                clear ec EC
                go_wp2_with fail
                refine (EC2.out _).mono ?_
                rintro e w3 ⟨rfl, rfl⟩
                go_wp2_with fail
                refine (EC2.out _).mono ?_
                rintro e w3 ⟨rfl, rfl⟩
                go_wp2_with fail
                go_roundw
                case rel =>
                  refine ⟨n + 1, by omega, ?_, by first | rfl | trivial⟩
                  have := Hch.out
                  show Value.int _ _ = Value.int _ _
                  congr 1; omega
                case measure => simp [intOf] <;> omega
              | false =>
                have ec : ∀ W, Calls Try.prog 12 #[.int .i64 mode, .int .i64 ch] W fun e w' => e = .returned (.int .i64 0) ∧ w' = W := EC.out
                have EC2 := Lib.hid ec
                clear ec EC
                go_wp2_with fail
                refine (EC2.out _).mono ?_
                rintro e w3 ⟨rfl, rfl⟩
                go_wp2_with fail
                refine (EC2.out _).mono ?_
                rintro e w3 ⟨rfl, rfl⟩
                go_wp2_with fail
                go_roundw
                case rel =>
                  refine ⟨n + 1, by omega, ?_, by first | rfl | trivial⟩
                  have := Hch.out
                  show Value.int _ _ = Value.int _ _
                  congr 1; omega
                case measure => simp [intOf] <;> omega
          · obtain rfl : n = 4 := by omega
            have ho1 : anyO l = false := by
              unfold anyO
              rw [List.any_eq_false]
              intro x hx
              obtain ⟨q, hq, rfl⟩ := List.mem_iff_getElem.1 hx
              rw [inB_out (by omega) (Hin2.out q hq (by have := Hlm.out; omega)).1]; simp
            have ho2 : anyO m = false := by
              unfold anyO
              rw [List.any_eq_false]
              intro x hx
              obtain ⟨q, hq, rfl⟩ := List.mem_iff_getElem.1 hx
              rw [inB_out (by omega) (Hin2.out q (by have := Hlm.out; omega) hq).2]; simp
            have HW : Hid (wrongR mode l m = if badMode mode then 13 else 0) := by
              show wrongR mode l m = _
              unfold wrongR
              rw [if_neg (c := l.length ≠ m.length) (fun h => h Hlm.out), ho1, ho2]; rfl
            clear ho1 ho2
            by_cases hbad : badMode mode = true
            · have HW1 : Hid (wrongR mode l m = 13) := HW.out.trans (if_pos hbad)
              clear hbad HW
              go_wp2_with fail
              refine (part_no mode l m A B c d _ Hr0.out Hs0.out (by omega) (by have := Hlm.out; omega) (by rw [HW1.out]; decide)).mono ?_
              rintro e w1 ⟨rfl, hb1⟩
              rw [HW1.out]
              go_wp2_with fail
              refine (awake_any _).mono ?_
              rintro e w5 ⟨rfl, hb5⟩
              go_wp2_with fail
              go_ret
              exact ⟨rfl, bnext (bnext hb0 hb1) hb5⟩
            · have HW1 : Hid (wrongR mode l m = 0) := HW.out.trans (if_neg hbad)
              clear hbad HW
              have E0 := fun W => extra_any mode 0 W
              have E1 := fun W => extra_any mode 1 W
              have Htwo := Lib.hid (fun x y => bits_two mode x y k)
              obtain ⟨x0, hx0⟩ : ∃ z, exN (sideB mode 0) = z := ⟨_, rfl⟩
              obtain ⟨x1, hx1⟩ : ∃ z, exN (sideB mode 1) = z := ⟨_, rfl⟩
              have hx0' : x0 ≤ 1 := by rw [← hx0]; unfold exN; split <;> omega
              have hx1' : x1 ≤ 1 := by rw [← hx1]; unfold exN; split <;> omega
              rw [hx0] at E0 Htwo
              rw [hx1] at E1 Htwo
              clear hx0 hx1
              have I0 := fun x W => in_any x (k + x0) (by omega) W
              have I1 := fun x W => in_any x (k + x1) (by omega) W
              obtain ⟨z0, hz0⟩ : ∃ z : Int, ((k + x0 : Nat) : Int) + 1 = z := ⟨_, rfl⟩
              obtain ⟨z1, hz1⟩ : ∃ z : Int, ((k + x1 : Nat) : Int) + 1 = z := ⟨_, rfl⟩
              rw [hz0] at I0
              rw [hz1] at I1
              have ez0 : IntKind.i64.wrap (dp + (x0 : Int)) = z0 := by rw [IntKind.wrap_i64]; have := Hk.out; omega
              have ez1 : IntKind.i64.wrap (dp + (x1 : Int)) = z1 := by rw [IntKind.wrap_i64]; have := Hk.out; omega
              have ey0 : wrap64 (dp + (x0 : Int)) = z0 := by unfold wrap64; rw [← ez0, IntKind.wrap_i64]
              have ey1 : wrap64 (dp + (x1 : Int)) = z1 := by unfold wrap64; rw [← ez1, IntKind.wrap_i64]
              have HE0 := Lib.hid E0
              have HE1 := Lib.hid E1
              have HI0 := Lib.hid I0
              have HI1 := Lib.hid I1
              clear E0 E1 I0 I1 hz0 hz1
              go_wp2_with fail
              refine (part_ok mode l m A B c d _ Hr0.out Hs0.out (by omega) (by have := Hlm.out; omega) HW1.out trivial).mono ?_
              rintro e w1 ⟨A1, c1, A2, c2, rfl, R1, R2, hb1⟩
              have hb01 := bnext hb0 hb1
              go_wp2_with fail
              go_loopw [15] (fun i wr => ∃ j : Nat, j ≤ l.length ∧ i = .int .i64 j ∧ Hid (Below w1.heap.size w1 wr)) (fun i _ => l.length - (intOf i).toNat)
              case atStart => exact ⟨0, by omega, rfl, Below.refl _ _⟩
              case round =>
                obtain ⟨j, hj, rfl, Hb⟩ := hrel
                by_cases hjj : j < l.length
                · have hjm : j < m.length := by have := Hlm.out; omega
                  obtain ⟨b1, o1, rfl, hc1⟩ := (R1.out.below Hb.out) j _ (zip_get _ l m j hjj hjm)
                  obtain ⟨b2, o2, rfl, hc2⟩ := (R2.out.below Hb.out) j _ (zip_get _ l m j hjj hjm)
                  obtain ⟨t1, t2⟩ := Htwo.out l[j] m[j] (Hin2.out j hjj hjm).1 (Hin2.out j hjj hjm).2
                  obtain ⟨px, hpx⟩ : ∃ p, (twoN mode l[j] m[j]).1 = p := ⟨_, rfl⟩
                  obtain ⟨py, hpy⟩ : ∃ p, (twoN mode l[j] m[j]).2 = p := ⟨_, rfl⟩
                  rw [hpx] at hc1 t1
                  rw [hpy] at hc2 t2
                  have CI0 := HI0.out px
                  have CI1 := HI1.out py
                  rw [t1] at CI0
                  rw [t2] at CI1
                  have HCI0 := Lib.hid CI0
                  have HCI1 := Lib.hid CI1
                  have hj0 : (0 : Int) ≤ (j : Int) := by omega
                  have hjl' : (j : Int) < l.length := by omega
                  clear hpx hpy t1 t2 CI0 CI1
                  go_wp2_with fail
                  go_quiet (first | (go_at_call_of 12 (Value.int IntKind.i64 0); exact Calls.quiet_of_same (HE0.out _)) | (go_at_call_of 12 (Value.int IntKind.i64 1); exact Calls.quiet_of_same (HE1.out _)) | (go_at_call_of 11 (Value.int IntKind.i64 px); exact Calls.quiet_of_same (HCI0.out _)) | (go_at_call_of 11 (Value.int IntKind.i64 py); exact Calls.quiet_of_same (HCI1.out _)))
                  go_wp2_with fail
                  go_roundw
                  case rel => exact ⟨j + 1, by omega, by go_num, by show Below _ _ _; have := Hb.out; repeat (first | exact Below.refl _ _ | assumption | refine below_drewN ?_ _ | refine Below.drew ?_ | refine Below.alloc ?_ (Nat.le_refl _) _ | refine bal ?_ _ | refine bnext ?_ (by assumption))⟩
                  case measure => simp [intOf] <;> omega
                · obtain rfl : j = l.length := by omega
                  have hb5 := bnext hb01 Hb.out
                  go_wp2_with fail
                  refine (awake_any _).mono ?_
                  rintro e w5 ⟨rfl, hb6⟩
                  go_wp2_with fail
                  go_ret
                  exact ⟨rfl, bnext hb5 hb6⟩
  · have h2' : ((l.length : Int) != (m.length : Int)) = true := by rw [bne_iff_ne]; omega
    clear h2
    go_enter Try.func5, Try.ntmps5
    go_wp2_with fail
    refine (awake_any _).mono ?_
    rintro e w5 ⟨rfl, hb5⟩
    go_wp2_with fail
    go_ret
    exact ⟨rfl, bnext (by repeat (first | exact Below.refl _ _ | assumption | refine below_drewN ?_ _ | refine Below.drew ?_ | refine Below.alloc ?_ (Nat.le_refl _) _ | refine bal ?_ _ | refine bnext ?_ (by assumption))) hb5⟩
end Go.Proofs.Ytpjicibngdlhbaa
