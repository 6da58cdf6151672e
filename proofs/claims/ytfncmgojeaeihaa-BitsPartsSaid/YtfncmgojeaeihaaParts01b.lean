/-
  jetsamlaw01.BitsParts: its walk, the second half.
-/
import Derived.Test.YtfncmgojeaeihaaParts01
namespace Go.Proofs.Ytfncmgojeaeihaa
open Go.RowKit

theorem wrap_sum (Z Q : Nat) (h : Z + Q < 9223372036854775808) : wrap64 ((Z : Int) + Q) = (Z : Int) + Q := by unfold wrap64; omega

theorem wrap_fin (P Q K Z q : Nat) (h1 : (2 : Int) ^ q = (K : Int)) (h2 : (P : Int) * (K : Int) = (Z : Int)) (hK : K < 9223372036854775808) (hZ : Z + Q < 9223372036854775808) : wrap64 (wrap64 ((P : Int) * wrap64 (2 ^ q)) + (Q : Int)) = (Z : Int) + Q := by
  rw [h1, wrap_nat K hK, h2, wrap_nat Z (Nat.lt_of_le_of_lt (Nat.le_add_right _ _) hZ), wrap_sum Z Q hZ]

set_option maxRecDepth 100000 in
set_option maxHeartbeats 1000000 in
theorem bitsParts_good (l : List UInt8) (A : Option Addr) (c : Nat) (a : Int) (p q : Nat) (w : World) (hr : Rd w A (bv l)) (hl : l.length ≤ 140737488355328) (hn : A = none → l.length = 0 ∧ c = 0) (h48 : p + q ≤ 48) :
    Calls Try.prog 4 #[.slice A l.length c, .int .i64 a, .agg #[.int .i64 p, .int .i64 q]] w fun e w' => e = .returned (.bool true) ∧ Below w.heap.size w w' := by
  have HN := Lib.hid (fun (W : World) (hW : Below w.heap.size w W) => NewReader_any l A c W (hr.below hW) hl hn)
  clear hn hr
  go_enter Try.func4, Try.ntmps4
  go_wp2_with fail
  refine (HN.out _ (by repeat (first | exact Below.refl _ _ | assumption | refine below_drewN ?_ _ | refine Below.drew ?_ | refine Below.alloc ?_ (Nat.le_refl _) _ | refine bal ?_ _ | refine bnext ?_ (by assumption)))).mono ?_
  rintro e w1 ⟨R, A', c', rfl, hR1, hRw, hRl, hb1⟩
  have hBR : w.heap.size < R := by simp at hRw; omega
  have HC0 : Hid (w1.cell? ⟨w.heap.size, 0, none⟩ = some (.int .i64 p)) := (hb1.cell (p := ⟨w.heap.size, 0, none⟩) (by simp)).trans (by go_simp)
  have HC1 : Hid (w1.cell? ⟨w.heap.size, 1, none⟩ = some (.int .i64 q)) := (hb1.cell (p := ⟨w.heap.size, 1, none⟩) (by simp)).trans (by go_simp)
  have Hb1 : Hid (Below w.heap.size w w1) := bnext (by repeat (first | exact Below.refl _ _ | assumption | refine below_drewN ?_ _ | refine Below.drew ?_ | refine Below.alloc ?_ (Nat.le_refl _) _ | refine bal ?_ _ | refine bnext ?_ (by assumption))) hb1
  have HR1 := Lib.hid hR1
  clear hR1 hRw hb1
  go_wp2_with fail
  refine (HN.out _ Hb1.out).mono ?_
  rintro e w2 ⟨X, A2, c2, rfl, hX2, hXw, hXl, hb2⟩
  have hRX : R < X := by omega
  have HR2 := Lib.hid (HR1.out.below hb2)
  have HC02 : Hid (w2.cell? ⟨w.heap.size, 0, none⟩ = some (.int .i64 p)) := (hb2.cell (p := ⟨w.heap.size, 0, none⟩) (cell_lt HC0.out)).trans HC0.out
  have HC12 : Hid (w2.cell? ⟨w.heap.size, 1, none⟩ = some (.int .i64 q)) := (hb2.cell (p := ⟨w.heap.size, 1, none⟩) (cell_lt HC1.out)).trans HC1.out
  have Hb2 : Hid (Below w.heap.size w w2) := bnext Hb1.out hb2
  have HX2 := Lib.hid hX2
  clear hX2 hXw hb2 hRl hXl HR1 HC0 HC1 Hb1 HN
  by_cases h300 : 300 < l.length
  · go_wp2_with fail
    refine (awake_any _).mono ?_
    rintro e w3 ⟨rfl, hb3⟩
    have hend := bnext Hb2.out hb3
    go_wp2_with fail
    go_ret
    exact ⟨rfl, hend⟩
  have HS1 := Lib.hid (Seek_any R 0 A' l c' a w2 HR2.out)
  have HS2 := Lib.hid (fun W h => Seek_any X 0 A2 l c2 a W h)
  generalize (if a < 0 ∨ 8 * (l.length : Int) < a then (10 : Int) else 0) = E0 at *
  generalize (if a < 0 ∨ 8 * (l.length : Int) < a then 0 else a.toNat) = t at *
  have hE0 : (E0 != E0) = false := by simp
  go_wp2_with fail
  refine HS1.out.mono ?_
  rintro e w3 ⟨rfl, hR3, f3⟩
  have HX3 := Lib.hid (HX2.out.beside HR2.out (by omega) f3)
  have HC03 := Lib.hid (f3.cell HC02.out (fun e => by simp at e; omega))
  have HC13 := Lib.hid (f3.cell HC12.out (fun e => by simp at e; omega))
  have Hb3 : Hid (Below w.heap.size w w3) := f3.below Hb2.out (fun k hk => by omega)
  have HR3 := Lib.hid hR3
  have ht : t ≤ 8 * l.length := hR3.le
  clear HS1 HR2 HX2 HC02 HC12 Hb2 hR3 f3
  go_wp2_with fail
  refine (HS2.out _ HX3.out).mono ?_
  rintro e w4 ⟨rfl, hX4, f4⟩
  have HR4 := Lib.hid (HR3.out.beside HX3.out (by omega) f4)
  have HC04 := Lib.hid (f4.cell HC03.out (fun e => by simp at e; omega))
  have HC14 := Lib.hid (f4.cell HC13.out (fun e => by simp at e; omega))
  have Hb4 : Hid (Below w.heap.size w w4) := f4.below Hb3.out (fun k hk => by omega)
  have HX4 := Lib.hid hX4
  clear HS2 HR3 HX3 HC03 HC13 Hb3 hX4 f4
  have HAt := Lib.hid (fun W (hW : Below w4.heap.size w4 W) => At_any R t A' l.length c' W (HR4.out.below hW).row)
  have HLf := Lib.hid (fun W (hW : Below w4.heap.size w4 W) => Left_any R t A' l.length c' W (HR4.out.below hW).row ht (by omega))
  have e8 : ((t : Int) + (8 * (l.length : Int) - (t : Int)) != 8 * (l.length : Int)) = false := by rw [bne_eq_false_iff_eq]; omega
  go_wp2_with fail
  refine (HAt.out _ (Below.refl _ _)).mono ?_
  rintro e w5 ⟨rfl, hb5⟩
  go_wp2_with fail
  refine (HLf.out _ hb5).mono ?_
  rintro e w6 ⟨rfl, hb6⟩
  have hb56 := bnext hb5 hb6
  go_wp2_with fail
  refine (HAt.out _ hb56).mono ?_
  rintro e w7 ⟨rfl, hb7⟩
  have hb57 := bnext hb56 hb7
  have HR7 := Lib.hid (HR4.out.below hb57)
  have HX7 := Lib.hid (HX4.out.below hb57)
  have hc0 : w7.cell? ⟨w.heap.size, 0, none⟩ = some (.int .i64 p) := (hb57.cell (p := ⟨w.heap.size, 0, none⟩) (cell_lt HC04.out)).trans HC04.out
  have hc1 : w7.cell? ⟨w.heap.size, 1, none⟩ = some (.int .i64 q) := (hb57.cell (p := ⟨w.heap.size, 1, none⟩) (cell_lt HC14.out)).trans HC14.out
  have HQ0 := Lib.hid hc0
  have HQ1 := Lib.hid hc1
  have Hb7 : Hid (Below w.heap.size w w7) := bnext Hb4.out hb57
  clear HAt HLf HR4 HX4 HC04 HC14 Hb4 hb5 hb6 hb7 hb56 hb57 e8 hE0
  have HT := Lib.hid (Take_any R t A' l c' ((p : Int) + q) w7 HR7.out)
  have HX1 := Lib.hid (fun W h => Take_any X t A2 l c2 p W h)
  have HX2 := Lib.hid (fun t' W h => Take_any X t' A2 l c2 q W h)
  have HRX := Lib.hid (show w.heap.size < R ∧ R < X from ⟨hBR, hRX⟩)
  by_cases hfar : 8 * l.length < t + (p + q)
  · have hE : tkE ((p : Int) + q) (8 * l.length - t) = 11 := by rw [tkE, if_neg (by omega), if_pos (by omega)]
    rw [show tkT l t ((p : Int) + q) = t from if_neg (by rw [hE]; decide), hE] at HT
    have HFG : Hid (tkE p (8 * l.length - t) = 11 ∨ ((tkE p (8 * l.length - t) == 11) = false ∧ tkE q (8 * l.length - tkT l t p) = 11)) := by
      by_cases h1 : 8 * l.length - t < p
      · exact .inl (by rw [tkE, if_neg (by omega), if_pos (by omega)])
      · have h2 : tkE p (8 * l.length - t) = 0 := by rw [tkE, if_neg (by omega), if_neg (by omega)]
        refine .inr ⟨by rw [h2]; decide, ?_⟩
        rw [tkT, if_pos h2, tkE, if_neg (by omega), if_pos (by omega)]
    clear hE hfar
    generalize tkV l t ((p : Int) + q) = V at *
    generalize tkV l t p = P at *
    generalize tkT l t p = T1 at *
    generalize tkV l T1 q = Q at *
    generalize tkE p (8 * l.length - t) = F at *
    have HX3 := Lib.hid (HX2.out T1)
    clear HX2
    generalize tkE q (8 * l.length - T1) = G at *
    generalize tkV l T1 q = Q at *
    generalize tkT l T1 q = T2 at *
    go_wp2_with fail
    refine HT.out.mono ?_
    rintro e w9 ⟨rfl, hR9, f9⟩
    have hX9 := HX7.out.beside HR7.out (by omega) f9
    have hq0 := f9.cell HQ0.out (fun e => by simp at e; have := HRX.out; omega)
    have hq1 := f9.cell HQ1.out (fun e => by simp at e; have := HRX.out; omega)
    have HQ09 := Lib.hid hq0
    have HQ19 := Lib.hid hq1
    have Hb9 : Hid (Below w.heap.size w w9) := f9.below Hb7.out (fun k hk => by omega)
    have HR9 := Lib.hid hR9
    have HX9 := Lib.hid hX9
    clear HT HR7 HX7 HQ0 HQ1 hc0 hc1 Hb7 hR9 hX9 f9
    go_wp2_with fail
    refine (HX1.out _ HX9.out).mono ?_
    rintro e w10 ⟨rfl, hX10, f10⟩
    have HR10 := Lib.hid (HR9.out.beside HX9.out (by omega) f10)
    have hq2 := f10.cell HQ19.out (fun e => by simp at e; have := HRX.out; omega)
    have HQ2 := Lib.hid hq2
    have Hb10 : Hid (Below w.heap.size w w10) := f10.below Hb9.out (fun k hk => by omega)
    have HX10 := Lib.hid hX10
    clear HX1 HR9 HX9 HQ09 HQ19 hq0 hq1 Hb9 hX10 f10
    go_wp2_with fail
    refine (HX3.out _ HX10.out).mono ?_
    rintro e w11 ⟨rfl, hX11, f11⟩
    have HR11 := Lib.hid (HR10.out.beside HX10.out (by omega) f11)
    have hq3 := f11.cell HQ2.out (fun e => by simp at e; have := HRX.out; omega)
    have Hb11 : Hid (Below w.heap.size w w11) := f11.below Hb10.out (fun k hk => by omega)
    have HX11 := Lib.hid hX11
    clear HX3 HR10 HX10 HQ2 hq2 Hb10 hX11 f11
    rcases HFG.out with rfl | ⟨hF, rfl⟩
    · go_wp2_with fail
      refine (At_any R t A' l.length c' w11 HR11.out.row).mono ?_
      rintro e w12 ⟨rfl, hb12⟩
      have hdt : ((t : Int) == (t : Int)) = true := by simp
      go_wp2_with fail
      refine (awake_any _).mono ?_
      rintro e w13 ⟨rfl, hb13⟩
      have hend := bnext (bnext Hb11.out hb12) hb13
      go_wp2_with fail
      go_ret
      exact ⟨rfl, hend⟩
    · go_wp2_with fail
      refine (At_any R t A' l.length c' w11 HR11.out.row).mono ?_
      rintro e w12 ⟨rfl, hb12⟩
      have hdt : ((t : Int) == (t : Int)) = true := by simp
      go_wp2_with fail
      refine (awake_any _).mono ?_
      rintro e w13 ⟨rfl, hb13⟩
      have hend := bnext (bnext Hb11.out hb12) hb13
      go_wp2_with fail
      go_ret
      exact ⟨rfl, hend⟩
  · have hE : tkE ((p : Int) + q) (8 * l.length - t) = 0 := by rw [tkE, if_neg (by omega), if_neg (by omega)]
    have hF : tkE p (8 * l.length - t) = 0 := by rw [tkE, if_neg (by omega), if_neg (by omega)]
    have hT1 : tkT l t p = t + p := by rw [tkT, if_pos hF]; simp
    have hG : tkE q (8 * l.length - (t + p)) = 0 := by rw [tkE, if_neg (by omega), if_neg (by omega)]
    have hT2 : tkT l (t + p) q = t + (p + q) := by rw [tkT, if_pos hG]; simp; omega
    have hT : tkT l t ((p : Int) + q) = t + (p + q) := by rw [tkT, if_pos hE]; omega
    have hV : tkV l t ((p : Int) + q) = sg (bitAt l) t p * 2 ^ q + sg (bitAt l) (t + p) q := by
      rw [tkV, if_pos hE, show ((p : Int) + q).toNat = p + q from by omega, sg_add]
    have hP : tkV l t p = sg (bitAt l) t p := by rw [tkV, if_pos hF]; simp
    have hQ : tkV l (t + p) q = sg (bitAt l) (t + p) q := by rw [tkV, if_pos hG]; simp
    have HX3 := Lib.hid (HX2.out (t + p))
    rw [hE, hT, hV] at HT
    rw [hF, hT1, hP] at HX1
    rw [hG, hT2, hQ] at HX3
    have b1 := sg_lt (bitAt_lt l) t p
    have b2 := sg_lt (bitAt_lt l) (t + p) q
    have b3 : 2 ^ p * 2 ^ q ≤ (281474976710656 : Nat) := by rw [← Nat.pow_add]; exact Nat.pow_le_pow_right (n := 2) (by omega) h48
    have b4 : 2 ^ q ≤ (281474976710656 : Nat) := Nat.pow_le_pow_right (n := 2) (by omega) (show q ≤ 48 by omega)
    have b5 : sg (bitAt l) t p * 2 ^ q ≤ 281474976710656 := Nat.le_trans (Nat.mul_le_mul_right _ (Nat.le_of_lt b1)) b3
    clear hE hF hT1 hG hT2 hT hV hP hQ HX2 b1 b3
    generalize sg (bitAt l) t p = P at *
    generalize sg (bitAt l) (t + p) q = Q at *
    have HKQ : Hid (((2 : Int) ^ q) = ((2 ^ q : Nat) : Int)) := by show _ = _; simp
    generalize (2 : Nat) ^ q = K at *
    obtain ⟨Z, hZ⟩ : ∃ Z, P * K = Z := ⟨_, rfl⟩
    rw [hZ] at HT b5
    have HZ : Hid ((P : Int) * (K : Int) = (Z : Int)) := by show _ = _; rw [← hZ]; simp
    clear hZ hfar
    obtain ⟨T1, hT1⟩ : ∃ T1, t + p = T1 := ⟨_, rfl⟩
    rw [hT1] at HX1 HX3
    obtain ⟨T2, hT2⟩ : ∃ T2, t + (p + q) = T2 := ⟨_, rfl⟩
    rw [hT2] at HT HX3
    clear hT1 hT2
    go_wp2_with fail
    refine HT.out.mono ?_
    rintro e w9 ⟨rfl, hR9, f9⟩
    have hX9 := HX7.out.beside HR7.out (by omega) f9
    have hq0 := f9.cell HQ0.out (fun e => by simp at e; have := HRX.out; omega)
    have hq1 := f9.cell HQ1.out (fun e => by simp at e; have := HRX.out; omega)
    have HQ09 := Lib.hid hq0
    have HQ19 := Lib.hid hq1
    have Hb9 : Hid (Below w.heap.size w w9) := f9.below Hb7.out (fun k hk => by omega)
    have HR9 := Lib.hid hR9
    have HX9 := Lib.hid hX9
    clear HT HR7 HX7 HQ0 HQ1 hc0 hc1 Hb7 hR9 hX9 f9
    go_wp2_with fail
    refine (HX1.out _ HX9.out).mono ?_
    rintro e w10 ⟨rfl, hX10, f10⟩
    have HR10 := Lib.hid (HR9.out.beside HX9.out (by omega) f10)
    have hq2 := f10.cell HQ19.out (fun e => by simp at e; have := HRX.out; omega)
    have HQ2 := Lib.hid hq2
    have Hb10 : Hid (Below w.heap.size w w10) := f10.below Hb9.out (fun k hk => by omega)
    have HX10 := Lib.hid hX10
    clear HX1 HR9 HX9 HQ09 HQ19 hq0 hq1 Hb9 hX10 f10
    go_wp2_with fail
    refine (HX3.out _ HX10.out).mono ?_
    rintro e w11 ⟨rfl, hX11, f11⟩
    have HR11 := Lib.hid (HR10.out.beside HX10.out (by omega) f11)
    have hq3 := f11.cell HQ2.out (fun e => by simp at e; have := HRX.out; omega)
    have Hb11 : Hid (Below w.heap.size w w11) := f11.below Hb10.out (fun k hk => by omega)
    have HX11 := Lib.hid hX11
    clear HX3 HR10 HX10 HQ2 hq2 Hb10 hX11 f11
    have hw := wrap_fin P Q K Z q HKQ.out HZ.out (by omega) (by omega)
    have hmin : min q 64 = q := Nat.min_eq_left (by omega)
    clear b2 b4 b5 h48 ht
    go_wp2_with fail
    refine (At_any R T2 A' l.length c' w11 HR11.out.row).mono ?_
    rintro e w12 ⟨rfl, hb12⟩
    go_wp2_with fail
    refine (At_any X T2 A2 l.length c2 w12 (HX11.out.below hb12).row).mono ?_
    rintro e w13 ⟨rfl, hb13⟩
    go_wp2_with fail
    refine (awake_any _).mono ?_
    rintro e w14 ⟨rfl, hb14⟩
    have hend := bnext (bnext (bnext Hb11.out hb12) hb13) hb14
    go_wp2_with fail
    go_ret
    exact ⟨rfl, hend⟩
theorem bitsParts_walk (l : List UInt8) (A : Option Addr) (c : Nat) (a x y : Int) (w : World) (hr : Rd w A (bv l)) (hl : l.length ≤ 140737488355328) (hn : A = none → l.length = 0 ∧ c = 0) :
    Calls Try.prog 4 #[.slice A l.length c, .int .i64 a, .agg #[.int .i64 x, .int .i64 y]] w fun e w' => e = .returned (.bool true) ∧ Below w.heap.size w w' := by
  by_cases h : x < 0 ∨ y < 0 ∨ x > 48 ∨ y > 48 - x
  · exact bitsParts_bad l A c a x y w hr hl hn h
  · obtain ⟨p, rfl⟩ : ∃ p : Nat, x = p := ⟨x.toNat, by omega⟩
    obtain ⟨q, rfl⟩ : ∃ q : Nat, y = q := ⟨y.toNat, by omega⟩
    exact bitsParts_good l A c a p q w hr hl hn (by omega)
end Go.Proofs.Ytfncmgojeaeihaa
