/-
  jetsamlaw01.BitsParts: its walk. (Printed by wip/gen/parts.py.)
-/
import Derived.Test.YtfncmgojeaeihaaAll01
import Derived.Test.YtfncmgojeaeihaaMono
namespace Go.Proofs.Ytfncmgojeaeihaa
open Go.RowKit

set_option maxRecDepth 100000 in
set_option maxHeartbeats 4000000 in
theorem bitsParts_bad (l : List UInt8) (A : Option Addr) (c : Nat) (a x y : Int) (w : World) (hr : Rd w A (bv l)) (hl : l.length ≤ 140737488355328) (hn : A = none → l.length = 0 ∧ c = 0) (hbad : x < 0 ∨ y < 0 ∨ x > 48 ∨ y > 48 - x) :
    Calls Try.prog 4 #[.slice A l.length c, .int .i64 a, .agg #[.int .i64 x, .int .i64 y]] w fun e w' => e = .returned (.bool true) ∧ Below w.heap.size w w' := by
  have HN := Lib.hid (fun (W : World) (hW : Below w.heap.size w W) => NewReader_any l A c W (hr.below hW) hl hn)
  clear hn hr
  have Hbad := Lib.hid hbad
  clear hbad
  go_enter Try.func4, Try.ntmps4
  go_wp2_with fail
  refine (HN.out _ (by repeat (first | exact Below.refl _ _ | assumption | refine below_drewN ?_ _ | refine Below.drew ?_ | refine Below.alloc ?_ (Nat.le_refl _) _ | refine bal ?_ _ | refine bnext ?_ (by assumption)))).mono ?_
  rintro e w1 ⟨R, A', c', rfl, hR1, hRw, hRl, hb1⟩
  have hBR : w.heap.size < R := by simp at hRw; omega
  have HC0 : Hid (w1.cell? ⟨w.heap.size, 0, none⟩ = some (.int .i64 x)) := (hb1.cell (p := ⟨w.heap.size, 0, none⟩) (by simp)).trans (by go_simp)
  have HC1 : Hid (w1.cell? ⟨w.heap.size, 1, none⟩ = some (.int .i64 y)) := (hb1.cell (p := ⟨w.heap.size, 1, none⟩) (by simp)).trans (by go_simp)
  have Hb1 : Hid (Below w.heap.size w w1) := bnext (by repeat (first | exact Below.refl _ _ | assumption | refine below_drewN ?_ _ | refine Below.drew ?_ | refine Below.alloc ?_ (Nat.le_refl _) _ | refine bal ?_ _ | refine bnext ?_ (by assumption))) hb1
  have HR1 := Lib.hid hR1
  clear hR1 hRw hb1
  go_wp2_with fail
  refine (HN.out _ Hb1.out).mono ?_
  rintro e w2 ⟨X, A2, c2, rfl, hX2, hXw, hXl, hb2⟩
  have hRX : R < X := by omega
  have HR2 := Lib.hid (HR1.out.below hb2)
  have HC02 : Hid (w2.cell? ⟨w.heap.size, 0, none⟩ = some (.int .i64 x)) := (hb2.cell (p := ⟨w.heap.size, 0, none⟩) (cell_lt HC0.out)).trans HC0.out
  have HC12 : Hid (w2.cell? ⟨w.heap.size, 1, none⟩ = some (.int .i64 y)) := (hb2.cell (p := ⟨w.heap.size, 1, none⟩) (cell_lt HC1.out)).trans HC1.out
  have Hb2 : Hid (Below w.heap.size w w2) := bnext Hb1.out hb2
  have HX2 := Lib.hid hX2
  clear hX2 hXw hb2 hRl hXl HR1 HC0 HC1 Hb1 HN
  by_cases h300 : 300 < l.length
  · go_wp2_with fail
    refine (awake_any _).mono ?_
    rintro e w3 ⟨rfl, hb3⟩
    have hend := bnext Hb2.out hb3
    go_wp2_with fail
    go_ret
    exact ⟨rfl, hend⟩
  have HS1 := Lib.hid (Seek_any R 0 A' l c' a w2 HR2.out)
  have HS2 := Lib.hid (fun W h => Seek_any X 0 A2 l c2 a W h)
  generalize (if a < 0 ∨ 8 * (l.length : Int) < a then (10 : Int) else 0) = E0 at *
  generalize (if a < 0 ∨ 8 * (l.length : Int) < a then 0 else a.toNat) = t at *
  have hE0 : (E0 != E0) = false := by simp
  go_wp2_with fail
  refine HS1.out.mono ?_
  rintro e w3 ⟨rfl, hR3, f3⟩
  have HX3 := Lib.hid (HX2.out.beside HR2.out (by omega) f3)
  have HC03 := Lib.hid (f3.cell HC02.out (fun e => by simp at e; omega))
  have HC13 := Lib.hid (f3.cell HC12.out (fun e => by simp at e; omega))
  have Hb3 : Hid (Below w.heap.size w w3) := f3.below Hb2.out (fun k hk => by omega)
  have HR3 := Lib.hid hR3
  have ht : t ≤ 8 * l.length := hR3.le
  clear HS1 HR2 HX2 HC02 HC12 Hb2 hR3 f3
  go_wp2_with fail
  refine (HS2.out _ HX3.out).mono ?_
  rintro e w4 ⟨rfl, hX4, f4⟩
  have HR4 := Lib.hid (HR3.out.beside HX3.out (by omega) f4)
  have HC04 := Lib.hid (f4.cell HC03.out (fun e => by simp at e; omega))
  have HC14 := Lib.hid (f4.cell HC13.out (fun e => by simp at e; omega))
  have Hb4 : Hid (Below w.heap.size w w4) := f4.below Hb3.out (fun k hk => by omega)
  have HX4 := Lib.hid hX4
  clear HS2 HR3 HX3 HC03 HC13 Hb3 hX4 f4
  have HAt := Lib.hid (fun W (hW : Below w4.heap.size w4 W) => At_any R t A' l.length c' W (HR4.out.below hW).row)
  have HLf := Lib.hid (fun W (hW : Below w4.heap.size w4 W) => Left_any R t A' l.length c' W (HR4.out.below hW).row ht (by omega))
  have e8 : ((t : Int) + (8 * (l.length : Int) - (t : Int)) != 8 * (l.length : Int)) = false := by rw [bne_eq_false_iff_eq]; omega
  go_wp2_with fail
  refine (HAt.out _ (Below.refl _ _)).mono ?_
  rintro e w5 ⟨rfl, hb5⟩
  go_wp2_with fail
  refine (HLf.out _ hb5).mono ?_
  rintro e w6 ⟨rfl, hb6⟩
  have hb56 := bnext hb5 hb6
  go_wp2_with fail
  refine (HAt.out _ hb56).mono ?_
  rintro e w7 ⟨rfl, hb7⟩
  have hb57 := bnext hb56 hb7
  have HR7 := Lib.hid (HR4.out.below hb57)
  have HX7 := Lib.hid (HX4.out.below hb57)
  have hc0 : w7.cell? ⟨w.heap.size, 0, none⟩ = some (.int .i64 x) := (hb57.cell (p := ⟨w.heap.size, 0, none⟩) (cell_lt HC04.out)).trans HC04.out
  have hc1 : w7.cell? ⟨w.heap.size, 1, none⟩ = some (.int .i64 y) := (hb57.cell (p := ⟨w.heap.size, 1, none⟩) (cell_lt HC14.out)).trans HC14.out
  have HQ0 := Lib.hid hc0
  have HQ1 := Lib.hid hc1
  have Hb7 : Hid (Below w.heap.size w w7) := bnext Hb4.out hb57
  clear HAt HLf HR4 HX4 HC04 HC14 Hb4 hb5 hb6 hb7 hb56 hb57 e8 hE0
  have hbad := Hbad.out
  · have HT := Lib.hid (Take_any R t A' l c' x w7 HR7.out)
    have HEok : Hid (tkE x (8 * l.length - t) = 0 → 0 ≤ x ∧ x ≤ 48 ∧ x ≤ 8 * (l.length : Int) - t) := fun h => by have := tkE_ok h; omega
    have HEno : Hid (tkE x (8 * l.length - t) ≠ 0 → x < 0 ∨ 48 < x ∨ (0 ≤ x ∧ x ≤ 48 ∧ 8 * (l.length : Int) - t < x)) := fun h => by
      unfold tkE at h
      split at h
      · omega
      · split at h
        · omega
        · exact absurd rfl h
    have HTn : Hid (tkE x (8 * l.length - t) ≠ 0 → tkT l t x = t) := fun h => by rw [tkT, if_neg h]
    generalize tkV l t x = V at *
    generalize tkT l t x = T at *
    generalize tkE x (8 * l.length - t) = E at *
    go_upto_region 8 with fail
    go_cut [82] (fun v wx => v = .bool true ∧ w7 = wx)
    case first =>
      by_cases g1 : x < 0
      · go_wp2_with fail
        go_meet
        exact ⟨rfl, rfl⟩
      by_cases g2 : y < 0
      · go_wp2_with fail
        go_meet
        exact ⟨rfl, rfl⟩
      by_cases g3 : x > 48
      · go_wp2_with fail
        go_meet
        exact ⟨rfl, rfl⟩
      have g4 : y > 48 - x := by omega
      go_wp2_with fail
      go_meet
      exact ⟨rfl, rfl⟩
    case rest =>
      obtain ⟨rfl, rfl⟩ := hcut
      clear hbad Hbad
      go_wp2_with fail
      refine HT.out.mono ?_
      rintro e w9 ⟨rfl, hR9, f9⟩
      have HX9 := HX7.out.beside HR7.out (by omega) f9
      have Hb9 : Hid (Below w.heap.size w w9) := f9.below Hb7.out (fun k hk => by omega)
      have HC09 := Lib.hid (f9.cell HQ0.out (fun e => by simp at e; omega))
      have HC0 : Hid (∀ W, Below w9.heap.size w9 W → W.cell? ⟨w.heap.size, 0, none⟩ = some (.int .i64 x)) := fun W hW => (hW.cell (p := ⟨w.heap.size, 0, none⟩) (cell_lt HC09.out)).trans HC09.out
      have HLf := Lib.hid (fun W (hW : Below w9.heap.size w9 W) => Left_any X t A2 l.length c2 W (HX9.below hW).row ht (by omega))
      clear HT HR7 HX7 HQ0 HQ1 hc0 hc1 Hb7 HX9 HC09 f9
      by_cases hE : E = 0
      · subst hE
        obtain ⟨g1, g2, g3⟩ := HEok.out rfl
        have d1 : decide (0 ≤ x) = true := by rw [decide_eq_true_iff]; exact g1
        have d2 : decide (x ≤ 48) = true := by rw [decide_eq_true_iff]; exact g2
        have d3 : decide (x ≤ 8 * (l.length : Int) - (t : Int)) = true := by rw [decide_eq_true_iff]; exact g3
        clear HEok HEno HTn g1 g2 g3 hR9
        go_wp2_with fail
        refine wp_region_specs [
          Spec.val (.int .i64 0),
          Spec.val (.bool true),
          Spec.val (.pointer (some ⟨w.heap.size, 0, none⟩)),
          Spec.val (.int .i64 x),
          Spec.val (.bool true),
          Spec.val (.bool true),
          Spec.val (.pointer (some ⟨w.heap.size, 0, none⟩)),
          Spec.val (.int .i64 x),
          Spec.val (.bool true),
          Spec.val (.bool true),
          Spec.val (.bool true),
          Spec.val (.pointer (some ⟨w.heap.size, 0, none⟩)),
          Spec.val (.int .i64 x),
          Spec.val (.pointer (some ⟨X, 0, none⟩)),
          Spec.val (.int .i64 (8 * (l.length : Int) - (t : Int))),
          Spec.val (.bool true),
          Spec.val (.bool true),
          Spec.val (.bool true),
          Spec.val (.bool true),
          Spec.val (.int .i64 0),
          Spec.val (.bool true),
          Spec.val (.bool true),
          Spec.val (undef),
          Spec.val (undef),
          Spec.val (undef),
          Spec.val (undef),
          Spec.val ((Value.bool true)),
          Spec.val ((Value.bool true)),
          Spec.val ((Value.bool true)),
          Spec.val (.bool true),
          Spec.val (.bool true),
          Spec.val (.bool true)] w9 (by kernel_rfl) (by repeat (first | exact Below.refl _ _ | assumption | refine below_drewN ?_ _ | refine Below.drew ?_ | refine Below.alloc ?_ (Nat.le_refl _) _ | refine bal ?_ _ | refine bnext ?_ (by assumption))) (n := 195) rfl (by decide +kernel) ⟨?_, ?_, ?_, ?_, ?_, ?_, ?_, ?_, ?_, ?_, ?_, ?_, ?_, ?_, ?_, ?_, ?_, ?_, ?_, ?_, ?_, ?_, ?_, ?_, ?_, ?_, ?_, ?_, ?_, ?_, ?_, ?_, trivial⟩ ?_
        · intro ac wd hJ hfr hdep
          have s11 : ac.tmps.getD 11 undef = .int .i64 0 := (hfr 11 (by decide)).trans rfl
          have s11' := slot' s11
          clear hfr hdep
          refine if_wanted rfl (fun Q => op_any (fun K hK => ?_))
          go_simp
          exact hK _ _ rfl hJ (Below.refl _ _)
        · intro ac wd hJ hfr hdep
          have s90 : ac.tmps.getD 90 undef = .int .i64 0 := hdep 0 _ 90 (by decide) rfl rfl
          have s90' := slot' s90
          clear hfr hdep
          refine if_wanted rfl (fun Q => op_any (fun K hK => ?_))
          go_simp
          exact hK _ _ rfl hJ (Below.refl _ _)
        · intro ac wd hJ hfr hdep
          have s5 : ac.tmps.getD 5 undef = .pointer (some ⟨w.heap.size, 0, none⟩) := (hfr 5 (by decide)).trans rfl
          have s5' := slot' s5
          clear hfr hdep
          refine if_wanted rfl (fun Q => op_any (fun K hK => ?_))
          go_simp
          exact hK _ _ rfl hJ (Below.refl _ _)
        · intro ac wd hJ hfr hdep
          have s92 : ac.tmps.getD 92 undef = .pointer (some ⟨w.heap.size, 0, none⟩) := hdep 2 _ 92 (by decide) rfl rfl
          have s92' := slot' s92
          clear hfr hdep
          refine if_wanted rfl (fun Q => op_any (fun K hK => ?_))
          have hx := HC0.out wd hJ
          go_simp
          exact hK _ _ rfl hJ (Below.refl _ _)
        · intro ac wd hJ hfr hdep
          have s93 : ac.tmps.getD 93 undef = .int .i64 x := hdep 3 _ 93 (by decide) rfl rfl
          have s93' := slot' s93
          clear hfr hdep
          refine if_wanted rfl (fun Q => op_any (fun K hK => ?_))
          go_simp
          exact hK _ _ rfl hJ (Below.refl _ _)
        · intro ac wd hJ hfr hdep
          have s94 : ac.tmps.getD 94 undef = .bool true := hdep 4 _ 94 (by decide) rfl rfl
          have s94' := slot' s94
          clear hfr hdep
          refine if_wanted rfl (fun Q => op_any (fun K hK => ?_))
          go_simp
          exact hK _ _ rfl hJ (Below.refl _ _)
        · intro ac wd hJ hfr hdep
          have sg : ac.tmps.getD 95 undef = .bool true := hdep 5 _ 95 (by decide) rfl rfl
          have s5 : ac.tmps.getD 5 undef = .pointer (some ⟨w.heap.size, 0, none⟩) := (hfr 5 (by decide)).trans rfl
          have s5' := slot' s5
          clear hfr hdep
          refine if_wanted (wanted_yes rfl rfl rfl sg) (fun Q => op_any (fun K hK => ?_))
          go_simp
          exact hK _ _ rfl hJ (Below.refl _ _)
        · intro ac wd hJ hfr hdep
          have sg : ac.tmps.getD 95 undef = .bool true := hdep 5 _ 95 (by decide) rfl rfl
          have s96 : ac.tmps.getD 96 undef = .pointer (some ⟨w.heap.size, 0, none⟩) := hdep 6 _ 96 (by decide) rfl rfl
          have s96' := slot' s96
          clear hfr hdep
          refine if_wanted (wanted_yes rfl rfl rfl sg) (fun Q => op_any (fun K hK => ?_))
          have hx := HC0.out wd hJ
          go_simp
          exact hK _ _ rfl hJ (Below.refl _ _)
        · intro ac wd hJ hfr hdep
          have sg : ac.tmps.getD 95 undef = .bool true := hdep 5 _ 95 (by decide) rfl rfl
          have s97 : ac.tmps.getD 97 undef = .int .i64 x := hdep 7 _ 97 (by decide) rfl rfl
          have s97' := slot' s97
          clear hfr hdep
          refine if_wanted (wanted_yes rfl rfl rfl sg) (fun Q => op_any (fun K hK => ?_))
          go_simp
          exact hK _ _ rfl hJ (Below.refl _ _)
        · intro ac wd hJ hfr hdep
          have s95 : ac.tmps.getD 95 undef = .bool true := hdep 5 _ 95 (by decide) rfl rfl
          have s98 : ac.tmps.getD 98 undef = .bool true := hdep 8 _ 98 (by decide) rfl rfl
          have s95' := slot' s95
          have s98' := slot' s98
          clear hfr hdep
          refine if_wanted rfl (fun Q => op_any (fun K hK => ?_))
          go_simp
          exact hK _ _ rfl hJ (Below.refl _ _)
        · intro ac wd hJ hfr hdep
          have s99 : ac.tmps.getD 99 undef = .bool true := hdep 9 _ 99 (by decide) rfl rfl
          have s99' := slot' s99
          clear hfr hdep
          refine if_wanted rfl (fun Q => op_any (fun K hK => ?_))
          go_simp
          exact hK _ _ rfl hJ (Below.refl _ _)
        · intro ac wd hJ hfr hdep
          have sg : ac.tmps.getD 100 undef = .bool true := hdep 10 _ 100 (by decide) rfl rfl
          have s5 : ac.tmps.getD 5 undef = .pointer (some ⟨w.heap.size, 0, none⟩) := (hfr 5 (by decide)).trans rfl
          have s5' := slot' s5
          clear hfr hdep
          refine if_wanted (wanted_yes rfl rfl rfl sg) (fun Q => op_any (fun K hK => ?_))
          go_simp
          exact hK _ _ rfl hJ (Below.refl _ _)
        · intro ac wd hJ hfr hdep
          have sg : ac.tmps.getD 100 undef = .bool true := hdep 10 _ 100 (by decide) rfl rfl
          have s101 : ac.tmps.getD 101 undef = .pointer (some ⟨w.heap.size, 0, none⟩) := hdep 11 _ 101 (by decide) rfl rfl
          have s101' := slot' s101
          clear hfr hdep
          refine if_wanted (wanted_yes rfl rfl rfl sg) (fun Q => op_any (fun K hK => ?_))
          have hx := HC0.out wd hJ
          go_simp
          exact hK _ _ rfl hJ (Below.refl _ _)
        · intro ac wd hJ hfr hdep
          have sg : ac.tmps.getD 100 undef = .bool true := hdep 10 _ 100 (by decide) rfl rfl
          have s8 : ac.tmps.getD 8 undef = .pointer (some ⟨X, 0, none⟩) := (hfr 8 (by decide)).trans rfl
          have s8' := slot' s8
          clear hfr hdep
          refine if_wanted (wanted_yes rfl rfl rfl sg) (fun Q => op_any (fun K hK => ?_))
          go_simp
          exact hK _ _ rfl hJ (Below.refl _ _)
        · intro ac wd hJ hfr hdep
          have sg : ac.tmps.getD 100 undef = .bool true := hdep 10 _ 100 (by decide) rfl rfl
          have s103 : ac.tmps.getD 103 undef = .pointer (some ⟨X, 0, none⟩) := hdep 13 _ 103 (by decide) rfl rfl
          have s103' := slot' s103
          clear hfr hdep
          refine if_wanted (wanted_yes rfl rfl rfl sg) (fun Q => op_any (fun K hK => ?_))
          go_simp
          refine (HLf.out _ hJ).mono ?_
          rintro e w1 ⟨rfl, hb1⟩
          exact hK _ _ rfl (bnext hJ hb1) hb1
        · intro ac wd hJ hfr hdep
          have sg : ac.tmps.getD 100 undef = .bool true := hdep 10 _ 100 (by decide) rfl rfl
          have s102 : ac.tmps.getD 102 undef = .int .i64 x := hdep 12 _ 102 (by decide) rfl rfl
          have s104 : ac.tmps.getD 104 undef = .int .i64 (8 * (l.length : Int) - (t : Int)) := hdep 14 _ 104 (by decide) rfl rfl
          have s102' := slot' s102
          have s104' := slot' s104
          clear hfr hdep
          refine if_wanted (wanted_yes rfl rfl rfl sg) (fun Q => op_any (fun K hK => ?_))
          go_simp
          exact hK _ _ rfl hJ (Below.refl _ _)
        · intro ac wd hJ hfr hdep
          have s100 : ac.tmps.getD 100 undef = .bool true := hdep 10 _ 100 (by decide) rfl rfl
          have s105 : ac.tmps.getD 105 undef = .bool true := hdep 15 _ 105 (by decide) rfl rfl
          have s100' := slot' s100
          have s105' := slot' s105
          clear hfr hdep
          refine if_wanted rfl (fun Q => op_any (fun K hK => ?_))
          go_simp
          exact hK _ _ rfl hJ (Below.refl _ _)
        · intro ac wd hJ hfr hdep
          have s91 : ac.tmps.getD 91 undef = .bool true := hdep 1 _ 91 (by decide) rfl rfl
          have s106 : ac.tmps.getD 106 undef = .bool true := hdep 16 _ 106 (by decide) rfl rfl
          have s91' := slot' s91
          have s106' := slot' s106
          clear hfr hdep
          refine if_wanted rfl (fun Q => op_any (fun K hK => ?_))
          go_simp
          exact hK _ _ rfl hJ (Below.refl _ _)
        · intro ac wd hJ hfr hdep
          have s107 : ac.tmps.getD 107 undef = .bool true := hdep 17 _ 107 (by decide) rfl rfl
          have s107' := slot' s107
          clear hfr hdep
          refine if_wanted rfl (fun Q => op_any (fun K hK => ?_))
          go_simp
          exact hK _ _ rfl hJ (Below.refl _ _)
        · intro ac wd hJ hfr hdep
          have sg : ac.tmps.getD 108 undef = .bool true := hdep 18 _ 108 (by decide) rfl rfl
          have s11 : ac.tmps.getD 11 undef = .int .i64 0 := (hfr 11 (by decide)).trans rfl
          have s11' := slot' s11
          clear hfr hdep
          refine if_wanted (wanted_yes rfl rfl rfl sg) (fun Q => op_any (fun K hK => ?_))
          go_simp
          exact hK _ _ rfl hJ (Below.refl _ _)
        · intro ac wd hJ hfr hdep
          have sg : ac.tmps.getD 108 undef = .bool true := hdep 18 _ 108 (by decide) rfl rfl
          have s109 : ac.tmps.getD 109 undef = .int .i64 0 := hdep 19 _ 109 (by decide) rfl rfl
          have s109' := slot' s109
          clear hfr hdep
          refine if_wanted (wanted_yes rfl rfl rfl sg) (fun Q => op_any (fun K hK => ?_))
          go_simp
          exact hK _ _ rfl hJ (Below.refl _ _)
        · intro ac wd hJ hfr hdep
          have sg : ac.tmps.getD 108 undef = .bool true := hdep 18 _ 108 (by decide) rfl rfl
          have s110 : ac.tmps.getD 110 undef = .bool true := hdep 20 _ 110 (by decide) rfl rfl
          have s110' := slot' s110
          clear hfr hdep
          refine if_wanted (wanted_yes rfl rfl rfl sg) (fun Q => op_any (fun K hK => ?_))
          go_simp
          exact hK _ _ rfl hJ (Below.refl _ _)
        · intro ac wd hJ hfr hdep
          have sg : ac.tmps.getD 111 undef = .bool true := hdep 21 _ 111 (by decide) rfl rfl
          exact if_unwanted (wanted_no rfl rfl rfl sg (by decide)) rfl
        · intro ac wd hJ hfr hdep
          have sg : ac.tmps.getD 111 undef = .bool true := hdep 21 _ 111 (by decide) rfl rfl
          exact if_unwanted (wanted_no rfl rfl rfl sg (by decide)) rfl
        · intro ac wd hJ hfr hdep
          have sg : ac.tmps.getD 111 undef = .bool true := hdep 21 _ 111 (by decide) rfl rfl
          exact if_unwanted (wanted_no rfl rfl rfl sg (by decide)) rfl
        · intro ac wd hJ hfr hdep
          have sg : ac.tmps.getD 111 undef = .bool true := hdep 21 _ 111 (by decide) rfl rfl
          exact if_unwanted (wanted_no rfl rfl rfl sg (by decide)) rfl
        · intro ac wd hJ hfr hdep
          have sg : ac.tmps.getD 108 undef = .bool true := hdep 18 _ 108 (by decide) rfl rfl
          have s111 : ac.tmps.getD 111 undef = .bool true := hdep 21 _ 111 (by decide) rfl rfl
          have s115 : ac.tmps.getD 115 undef = undef := hdep 25 _ 115 (by decide) rfl rfl
          have s111' := slot' s111
          have s115' := slot' s115
          clear hfr hdep
          refine if_wanted (wanted_yes rfl rfl rfl sg) (fun Q => op_any (fun K hK => ?_))
          go_simp
          exact hK _ _ rfl hJ (Below.refl _ _)
        · intro ac wd hJ hfr hdep
          have s108 : ac.tmps.getD 108 undef = .bool true := hdep 18 _ 108 (by decide) rfl rfl
          have s116 : ac.tmps.getD 116 undef = (Value.bool true) := hdep 26 _ 116 (by decide) rfl rfl
          have s108' := slot' s108
          have s116' := slot' s116
          clear hfr hdep
          refine if_wanted rfl (fun Q => op_any (fun K hK => ?_))
          go_simp
          exact hK _ _ rfl hJ (Below.refl _ _)
        · intro ac wd hJ hfr hdep
          have s117 : ac.tmps.getD 117 undef = (Value.bool true) := hdep 27 _ 117 (by decide) rfl rfl
          have s117' := slot' s117
          clear hfr hdep
          refine if_wanted rfl (fun Q => op_any (fun K hK => ?_))
          go_simp
          exact hK _ _ rfl hJ (Below.refl _ _)
        · intro ac wd hJ hfr hdep
          have sg : ac.tmps.getD 118 undef = .bool true := hdep 28 _ 118 (by decide) rfl rfl
          clear hfr hdep
          refine if_wanted (wanted_yes rfl rfl rfl sg) (fun Q => op_any (fun K hK => ?_))
          go_simp
          refine (awake_any _).mono ?_
          rintro e w1 ⟨rfl, hb1⟩
          exact hK _ _ rfl (bnext hJ hb1) hb1
        · intro ac wd hJ hfr hdep
          have s118 : ac.tmps.getD 118 undef = (Value.bool true) := hdep 28 _ 118 (by decide) rfl rfl
          have s119 : ac.tmps.getD 119 undef = .bool true := hdep 29 _ 119 (by decide) rfl rfl
          have s118' := slot' s118
          have s119' := slot' s119
          clear hfr hdep
          refine if_wanted rfl (fun Q => op_any (fun K hK => ?_))
          go_simp
          exact hK _ _ rfl hJ (Below.refl _ _)
        · intro ac wd hJ hfr hdep
          have s120 : ac.tmps.getD 120 undef = .bool true := hdep 30 _ 120 (by decide) rfl rfl
          have s120' := slot' s120
          clear hfr hdep
          refine if_wanted rfl (fun Q => op_any (fun K hK => ?_))
          go_simp
          exact hK _ _ rfl hJ (Below.refl _ _)
        intro f w' hJ hR
        have e0 : f 0 = .int .i64 0 := hR 0 (by decide)
        have e1 : f 1 = .bool true := hR 1 (by decide)
        have e2 : f 2 = .pointer (some ⟨w.heap.size, 0, none⟩) := hR 2 (by decide)
        have e3 : f 3 = .int .i64 x := hR 3 (by decide)
        have e4 : f 4 = .bool true := hR 4 (by decide)
        have e5 : f 5 = .bool true := hR 5 (by decide)
        have e6 : f 6 = .pointer (some ⟨w.heap.size, 0, none⟩) := hR 6 (by decide)
        have e7 : f 7 = .int .i64 x := hR 7 (by decide)
        have e8 : f 8 = .bool true := hR 8 (by decide)
        have e9 : f 9 = .bool true := hR 9 (by decide)
        have e10 : f 10 = .bool true := hR 10 (by decide)
        have e11 : f 11 = .pointer (some ⟨w.heap.size, 0, none⟩) := hR 11 (by decide)
        have e12 : f 12 = .int .i64 x := hR 12 (by decide)
        have e13 : f 13 = .pointer (some ⟨X, 0, none⟩) := hR 13 (by decide)
        have e14 : f 14 = .int .i64 (8 * (l.length : Int) - (t : Int)) := hR 14 (by decide)
        have e15 : f 15 = .bool true := hR 15 (by decide)
        have e16 : f 16 = .bool true := hR 16 (by decide)
        have e17 : f 17 = .bool true := hR 17 (by decide)
        have e18 : f 18 = .bool true := hR 18 (by decide)
        have e19 : f 19 = .int .i64 0 := hR 19 (by decide)
        have e20 : f 20 = .bool true := hR 20 (by decide)
        have e21 : f 21 = .bool true := hR 21 (by decide)
        have e22 : f 22 = undef := hR 22 (by decide)
        have e23 : f 23 = undef := hR 23 (by decide)
        have e24 : f 24 = undef := hR 24 (by decide)
        have e25 : f 25 = undef := hR 25 (by decide)
        have e26 : f 26 = (Value.bool true) := hR 26 (by decide)
        have e27 : f 27 = (Value.bool true) := hR 27 (by decide)
        have e28 : f 28 = (Value.bool true) := hR 28 (by decide)
        have e29 : f 29 = .bool true := hR 29 (by decide)
        have e30 : f 30 = .bool true := hR 30 (by decide)
        have e31 : f 31 = .bool true := hR 31 (by decide)
        clear hR
        simp only [finA, Act.put, List.setIfInBounds_toArray, List.set_cons_succ, List.set_cons_zero, Nat.reduceAdd, e0, e1, e2, e3, e4, e5, e6, e7, e8, e9, e10, e11, e12, e13, e14, e15, e16, e17, e18, e19, e20, e21, e22, e23, e24, e25, e26, e27, e28, e29, e30, e31]
        clear e0 e1 e2 e3 e4 e5 e6 e7 e8 e9 e10 e11 e12 e13 e14 e15 e16 e17 e18 e19 e20 e21 e22 e23 e24 e25 e26 e27 e28 e29 e30 e31
        have hend : Below w.heap.size w w' := bnext Hb9.out hJ
        go_wp2_with fail
        go_ret
        exact ⟨rfl, hend⟩
      · have dE : (E == 0) = false := by rw [beq_eq_false_iff_ne]; exact hE
        have dt : ((t : Int) == (t : Int)) = true := by simp
        obtain rfl : t = T := (HTn.out hE).symm
        have HAt := Lib.hid (fun W (hW : Below w9.heap.size w9 W) => At_any R _ A' l.length c' W (hR9.below hW).row)
        have hno := HEno.out hE
        clear HEok HEno HTn hR9 hE
        rcases hno with g1 | g1 | ⟨g1, g2, g3⟩
        · have d1 : decide (0 ≤ x) = false := by rw [decide_eq_false_iff_not]; omega
          go_wp2_with fail
          refine wp_region_specs [
            Spec.val (.int .i64 E),
            Spec.val (.bool false),
            Spec.val (.pointer (some ⟨w.heap.size, 0, none⟩)),
            Spec.val (.int .i64 x),
            Spec.val (.bool false),
            Spec.val (.bool false),
            Spec.val (undef),
            Spec.val (undef),
            Spec.val (undef),
            Spec.val ((Value.bool false)),
            Spec.val ((Value.bool false)),
            Spec.val (undef),
            Spec.val (undef),
            Spec.val (undef),
            Spec.val (undef),
            Spec.val (undef),
            Spec.val ((Value.bool false)),
            Spec.val (.bool true),
            Spec.val (.bool true),
            Spec.val (.int .i64 E),
            Spec.val (.bool false),
            Spec.val (.bool false),
            Spec.val (.pointer (some ⟨R, 0, none⟩)),
            Spec.val (.int .i64 (t : Int)),
            Spec.val (.int .i64 (t : Int)),
            Spec.val (.bool true),
            Spec.val (.bool true),
            Spec.val (.bool true),
            Spec.val (.bool true),
            Spec.val (.bool true),
            Spec.val (.bool true),
            Spec.val (.bool true)] w9 (by kernel_rfl) (by repeat (first | exact Below.refl _ _ | assumption | refine below_drewN ?_ _ | refine Below.drew ?_ | refine Below.alloc ?_ (Nat.le_refl _) _ | refine bal ?_ _ | refine bnext ?_ (by assumption))) (n := 195) rfl (by decide +kernel) ⟨?_, ?_, ?_, ?_, ?_, ?_, ?_, ?_, ?_, ?_, ?_, ?_, ?_, ?_, ?_, ?_, ?_, ?_, ?_, ?_, ?_, ?_, ?_, ?_, ?_, ?_, ?_, ?_, ?_, ?_, ?_, ?_, trivial⟩ ?_
          · intro ac wd hJ hfr hdep
            have s11 : ac.tmps.getD 11 undef = .int .i64 E := (hfr 11 (by decide)).trans rfl
            have s11' := slot' s11
            clear hfr hdep
            refine if_wanted rfl (fun Q => op_any (fun K hK => ?_))
            go_simp
            exact hK _ _ rfl hJ (Below.refl _ _)
          · intro ac wd hJ hfr hdep
            have s90 : ac.tmps.getD 90 undef = .int .i64 E := hdep 0 _ 90 (by decide) rfl rfl
            have s90' := slot' s90
            clear hfr hdep
            refine if_wanted rfl (fun Q => op_any (fun K hK => ?_))
            go_simp
            exact hK _ _ rfl hJ (Below.refl _ _)
          · intro ac wd hJ hfr hdep
            have s5 : ac.tmps.getD 5 undef = .pointer (some ⟨w.heap.size, 0, none⟩) := (hfr 5 (by decide)).trans rfl
            have s5' := slot' s5
            clear hfr hdep
            refine if_wanted rfl (fun Q => op_any (fun K hK => ?_))
            go_simp
            exact hK _ _ rfl hJ (Below.refl _ _)
          · intro ac wd hJ hfr hdep
            have s92 : ac.tmps.getD 92 undef = .pointer (some ⟨w.heap.size, 0, none⟩) := hdep 2 _ 92 (by decide) rfl rfl
            have s92' := slot' s92
            clear hfr hdep
            refine if_wanted rfl (fun Q => op_any (fun K hK => ?_))
            have hx := HC0.out wd hJ
            go_simp
            exact hK _ _ rfl hJ (Below.refl _ _)
          · intro ac wd hJ hfr hdep
            have s93 : ac.tmps.getD 93 undef = .int .i64 x := hdep 3 _ 93 (by decide) rfl rfl
            have s93' := slot' s93
            clear hfr hdep
            refine if_wanted rfl (fun Q => op_any (fun K hK => ?_))
            go_simp
            exact hK _ _ rfl hJ (Below.refl _ _)
          · intro ac wd hJ hfr hdep
            have s94 : ac.tmps.getD 94 undef = .bool false := hdep 4 _ 94 (by decide) rfl rfl
            have s94' := slot' s94
            clear hfr hdep
            refine if_wanted rfl (fun Q => op_any (fun K hK => ?_))
            go_simp
            exact hK _ _ rfl hJ (Below.refl _ _)
          · intro ac wd hJ hfr hdep
            have sg : ac.tmps.getD 95 undef = .bool false := hdep 5 _ 95 (by decide) rfl rfl
            exact if_unwanted (wanted_no rfl rfl rfl sg (by decide)) rfl
          · intro ac wd hJ hfr hdep
            have sg : ac.tmps.getD 95 undef = .bool false := hdep 5 _ 95 (by decide) rfl rfl
            exact if_unwanted (wanted_no rfl rfl rfl sg (by decide)) rfl
          · intro ac wd hJ hfr hdep
            have sg : ac.tmps.getD 95 undef = .bool false := hdep 5 _ 95 (by decide) rfl rfl
            exact if_unwanted (wanted_no rfl rfl rfl sg (by decide)) rfl
          · intro ac wd hJ hfr hdep
            have s95 : ac.tmps.getD 95 undef = .bool false := hdep 5 _ 95 (by decide) rfl rfl
            have s98 : ac.tmps.getD 98 undef = undef := hdep 8 _ 98 (by decide) rfl rfl
            have s95' := slot' s95
            have s98' := slot' s98
            clear hfr hdep
            refine if_wanted rfl (fun Q => op_any (fun K hK => ?_))
            go_simp
            exact hK _ _ rfl hJ (Below.refl _ _)
          · intro ac wd hJ hfr hdep
            have s99 : ac.tmps.getD 99 undef = (Value.bool false) := hdep 9 _ 99 (by decide) rfl rfl
            have s99' := slot' s99
            clear hfr hdep
            refine if_wanted rfl (fun Q => op_any (fun K hK => ?_))
            go_simp
            exact hK _ _ rfl hJ (Below.refl _ _)
          · intro ac wd hJ hfr hdep
            have sg : ac.tmps.getD 100 undef = .bool false := hdep 10 _ 100 (by decide) rfl rfl
            exact if_unwanted (wanted_no rfl rfl rfl sg (by decide)) rfl
          · intro ac wd hJ hfr hdep
            have sg : ac.tmps.getD 100 undef = .bool false := hdep 10 _ 100 (by decide) rfl rfl
            exact if_unwanted (wanted_no rfl rfl rfl sg (by decide)) rfl
          · intro ac wd hJ hfr hdep
            have sg : ac.tmps.getD 100 undef = .bool false := hdep 10 _ 100 (by decide) rfl rfl
            exact if_unwanted (wanted_no rfl rfl rfl sg (by decide)) rfl
          · intro ac wd hJ hfr hdep
            have sg : ac.tmps.getD 100 undef = .bool false := hdep 10 _ 100 (by decide) rfl rfl
            exact if_unwanted (wanted_no rfl rfl rfl sg (by decide)) rfl
          · intro ac wd hJ hfr hdep
            have sg : ac.tmps.getD 100 undef = .bool false := hdep 10 _ 100 (by decide) rfl rfl
            exact if_unwanted (wanted_no rfl rfl rfl sg (by decide)) rfl
          · intro ac wd hJ hfr hdep
            have s100 : ac.tmps.getD 100 undef = (Value.bool false) := hdep 10 _ 100 (by decide) rfl rfl
            have s105 : ac.tmps.getD 105 undef = undef := hdep 15 _ 105 (by decide) rfl rfl
            have s100' := slot' s100
            have s105' := slot' s105
            clear hfr hdep
            refine if_wanted rfl (fun Q => op_any (fun K hK => ?_))
            go_simp
            exact hK _ _ rfl hJ (Below.refl _ _)
          · intro ac wd hJ hfr hdep
            have s91 : ac.tmps.getD 91 undef = .bool false := hdep 1 _ 91 (by decide) rfl rfl
            have s106 : ac.tmps.getD 106 undef = (Value.bool false) := hdep 16 _ 106 (by decide) rfl rfl
            have s91' := slot' s91
            have s106' := slot' s106
            clear hfr hdep
            refine if_wanted rfl (fun Q => op_any (fun K hK => ?_))
            go_simp
            exact hK _ _ rfl hJ (Below.refl _ _)
          · intro ac wd hJ hfr hdep
            have s107 : ac.tmps.getD 107 undef = .bool true := hdep 17 _ 107 (by decide) rfl rfl
            have s107' := slot' s107
            clear hfr hdep
            refine if_wanted rfl (fun Q => op_any (fun K hK => ?_))
            go_simp
            exact hK _ _ rfl hJ (Below.refl _ _)
          · intro ac wd hJ hfr hdep
            have sg : ac.tmps.getD 108 undef = .bool true := hdep 18 _ 108 (by decide) rfl rfl
            have s11 : ac.tmps.getD 11 undef = .int .i64 E := (hfr 11 (by decide)).trans rfl
            have s11' := slot' s11
            clear hfr hdep
            refine if_wanted (wanted_yes rfl rfl rfl sg) (fun Q => op_any (fun K hK => ?_))
            go_simp
            exact hK _ _ rfl hJ (Below.refl _ _)
          · intro ac wd hJ hfr hdep
            have sg : ac.tmps.getD 108 undef = .bool true := hdep 18 _ 108 (by decide) rfl rfl
            have s109 : ac.tmps.getD 109 undef = .int .i64 E := hdep 19 _ 109 (by decide) rfl rfl
            have s109' := slot' s109
            clear hfr hdep
            refine if_wanted (wanted_yes rfl rfl rfl sg) (fun Q => op_any (fun K hK => ?_))
            go_simp
            exact hK _ _ rfl hJ (Below.refl _ _)
          · intro ac wd hJ hfr hdep
            have sg : ac.tmps.getD 108 undef = .bool true := hdep 18 _ 108 (by decide) rfl rfl
            have s110 : ac.tmps.getD 110 undef = .bool false := hdep 20 _ 110 (by decide) rfl rfl
            have s110' := slot' s110
            clear hfr hdep
            refine if_wanted (wanted_yes rfl rfl rfl sg) (fun Q => op_any (fun K hK => ?_))
            go_simp
            exact hK _ _ rfl hJ (Below.refl _ _)
          · intro ac wd hJ hfr hdep
            have sg : ac.tmps.getD 111 undef = .bool false := hdep 21 _ 111 (by decide) rfl rfl
            have s7 : ac.tmps.getD 7 undef = .pointer (some ⟨R, 0, none⟩) := (hfr 7 (by decide)).trans rfl
            have s7' := slot' s7
            clear hfr hdep
            refine if_wanted (wanted_yes rfl rfl rfl sg) (fun Q => op_any (fun K hK => ?_))
            go_simp
            exact hK _ _ rfl hJ (Below.refl _ _)
          · intro ac wd hJ hfr hdep
            have sg : ac.tmps.getD 111 undef = .bool false := hdep 21 _ 111 (by decide) rfl rfl
            have s112 : ac.tmps.getD 112 undef = .pointer (some ⟨R, 0, none⟩) := hdep 22 _ 112 (by decide) rfl rfl
            have s112' := slot' s112
            clear hfr hdep
            refine if_wanted (wanted_yes rfl rfl rfl sg) (fun Q => op_any (fun K hK => ?_))
            go_simp
            refine (HAt.out _ hJ).mono ?_
            rintro e w1 ⟨rfl, hb1⟩
            exact hK _ _ rfl (bnext hJ hb1) hb1
          · intro ac wd hJ hfr hdep
            have sg : ac.tmps.getD 111 undef = .bool false := hdep 21 _ 111 (by decide) rfl rfl
            have s9 : ac.tmps.getD 9 undef = .int .i64 (t : Int) := (hfr 9 (by decide)).trans rfl
            have s9' := slot' s9
            clear hfr hdep
            refine if_wanted (wanted_yes rfl rfl rfl sg) (fun Q => op_any (fun K hK => ?_))
            go_simp
            exact hK _ _ rfl hJ (Below.refl _ _)
          · intro ac wd hJ hfr hdep
            have sg : ac.tmps.getD 111 undef = .bool false := hdep 21 _ 111 (by decide) rfl rfl
            have s113 : ac.tmps.getD 113 undef = .int .i64 (t : Int) := hdep 23 _ 113 (by decide) rfl rfl
            have s114 : ac.tmps.getD 114 undef = .int .i64 (t : Int) := hdep 24 _ 114 (by decide) rfl rfl
            have s113' := slot' s113
            have s114' := slot' s114
            clear hfr hdep
            refine if_wanted (wanted_yes rfl rfl rfl sg) (fun Q => op_any (fun K hK => ?_))
            go_simp
            exact hK _ _ rfl hJ (Below.refl _ _)
          · intro ac wd hJ hfr hdep
            have sg : ac.tmps.getD 108 undef = .bool true := hdep 18 _ 108 (by decide) rfl rfl
            have s111 : ac.tmps.getD 111 undef = .bool false := hdep 21 _ 111 (by decide) rfl rfl
            have s115 : ac.tmps.getD 115 undef = .bool true := hdep 25 _ 115 (by decide) rfl rfl
            have s111' := slot' s111
            have s115' := slot' s115
            clear hfr hdep
            refine if_wanted (wanted_yes rfl rfl rfl sg) (fun Q => op_any (fun K hK => ?_))
            go_simp
            exact hK _ _ rfl hJ (Below.refl _ _)
          · intro ac wd hJ hfr hdep
            have s108 : ac.tmps.getD 108 undef = .bool true := hdep 18 _ 108 (by decide) rfl rfl
            have s116 : ac.tmps.getD 116 undef = .bool true := hdep 26 _ 116 (by decide) rfl rfl
            have s108' := slot' s108
            have s116' := slot' s116
            clear hfr hdep
            refine if_wanted rfl (fun Q => op_any (fun K hK => ?_))
            go_simp
            exact hK _ _ rfl hJ (Below.refl _ _)
          · intro ac wd hJ hfr hdep
            have s117 : ac.tmps.getD 117 undef = .bool true := hdep 27 _ 117 (by decide) rfl rfl
            have s117' := slot' s117
            clear hfr hdep
            refine if_wanted rfl (fun Q => op_any (fun K hK => ?_))
            go_simp
            exact hK _ _ rfl hJ (Below.refl _ _)
          · intro ac wd hJ hfr hdep
            have sg : ac.tmps.getD 118 undef = .bool true := hdep 28 _ 118 (by decide) rfl rfl
            clear hfr hdep
            refine if_wanted (wanted_yes rfl rfl rfl sg) (fun Q => op_any (fun K hK => ?_))
            go_simp
            refine (awake_any _).mono ?_
            rintro e w1 ⟨rfl, hb1⟩
            exact hK _ _ rfl (bnext hJ hb1) hb1
          · intro ac wd hJ hfr hdep
            have s118 : ac.tmps.getD 118 undef = .bool true := hdep 28 _ 118 (by decide) rfl rfl
            have s119 : ac.tmps.getD 119 undef = .bool true := hdep 29 _ 119 (by decide) rfl rfl
            have s118' := slot' s118
            have s119' := slot' s119
            clear hfr hdep
            refine if_wanted rfl (fun Q => op_any (fun K hK => ?_))
            go_simp
            exact hK _ _ rfl hJ (Below.refl _ _)
          · intro ac wd hJ hfr hdep
            have s120 : ac.tmps.getD 120 undef = .bool true := hdep 30 _ 120 (by decide) rfl rfl
            have s120' := slot' s120
            clear hfr hdep
            refine if_wanted rfl (fun Q => op_any (fun K hK => ?_))
            go_simp
            exact hK _ _ rfl hJ (Below.refl _ _)
          intro f w' hJ hR
          have e0 : f 0 = .int .i64 E := hR 0 (by decide)
          have e1 : f 1 = .bool false := hR 1 (by decide)
          have e2 : f 2 = .pointer (some ⟨w.heap.size, 0, none⟩) := hR 2 (by decide)
          have e3 : f 3 = .int .i64 x := hR 3 (by decide)
          have e4 : f 4 = .bool false := hR 4 (by decide)
          have e5 : f 5 = .bool false := hR 5 (by decide)
          have e6 : f 6 = undef := hR 6 (by decide)
          have e7 : f 7 = undef := hR 7 (by decide)
          have e8 : f 8 = undef := hR 8 (by decide)
          have e9 : f 9 = (Value.bool false) := hR 9 (by decide)
          have e10 : f 10 = (Value.bool false) := hR 10 (by decide)
          have e11 : f 11 = undef := hR 11 (by decide)
          have e12 : f 12 = undef := hR 12 (by decide)
          have e13 : f 13 = undef := hR 13 (by decide)
          have e14 : f 14 = undef := hR 14 (by decide)
          have e15 : f 15 = undef := hR 15 (by decide)
          have e16 : f 16 = (Value.bool false) := hR 16 (by decide)
          have e17 : f 17 = .bool true := hR 17 (by decide)
          have e18 : f 18 = .bool true := hR 18 (by decide)
          have e19 : f 19 = .int .i64 E := hR 19 (by decide)
          have e20 : f 20 = .bool false := hR 20 (by decide)
          have e21 : f 21 = .bool false := hR 21 (by decide)
          have e22 : f 22 = .pointer (some ⟨R, 0, none⟩) := hR 22 (by decide)
          have e23 : f 23 = .int .i64 (t : Int) := hR 23 (by decide)
          have e24 : f 24 = .int .i64 (t : Int) := hR 24 (by decide)
          have e25 : f 25 = .bool true := hR 25 (by decide)
          have e26 : f 26 = .bool true := hR 26 (by decide)
          have e27 : f 27 = .bool true := hR 27 (by decide)
          have e28 : f 28 = .bool true := hR 28 (by decide)
          have e29 : f 29 = .bool true := hR 29 (by decide)
          have e30 : f 30 = .bool true := hR 30 (by decide)
          have e31 : f 31 = .bool true := hR 31 (by decide)
          clear hR
          simp only [finA, Act.put, List.setIfInBounds_toArray, List.set_cons_succ, List.set_cons_zero, Nat.reduceAdd, e0, e1, e2, e3, e4, e5, e6, e7, e8, e9, e10, e11, e12, e13, e14, e15, e16, e17, e18, e19, e20, e21, e22, e23, e24, e25, e26, e27, e28, e29, e30, e31]
          clear e0 e1 e2 e3 e4 e5 e6 e7 e8 e9 e10 e11 e12 e13 e14 e15 e16 e17 e18 e19 e20 e21 e22 e23 e24 e25 e26 e27 e28 e29 e30 e31
          have hend : Below w.heap.size w w' := bnext Hb9.out hJ
          go_wp2_with fail
          go_ret
          exact ⟨rfl, hend⟩
        · have d1 : decide (0 ≤ x) = true := by rw [decide_eq_true_iff]; omega
          have d2 : decide (x ≤ 48) = false := by rw [decide_eq_false_iff_not]; omega
          go_wp2_with fail
          refine wp_region_specs [
            Spec.val (.int .i64 E),
            Spec.val (.bool false),
            Spec.val (.pointer (some ⟨w.heap.size, 0, none⟩)),
            Spec.val (.int .i64 x),
            Spec.val (.bool true),
            Spec.val (.bool true),
            Spec.val (.pointer (some ⟨w.heap.size, 0, none⟩)),
            Spec.val (.int .i64 x),
            Spec.val (.bool false),
            Spec.val (.bool false),
            Spec.val (.bool false),
            Spec.val (undef),
            Spec.val (undef),
            Spec.val (undef),
            Spec.val (undef),
            Spec.val (undef),
            Spec.val ((Value.bool false)),
            Spec.val (.bool true),
            Spec.val (.bool true),
            Spec.val (.int .i64 E),
            Spec.val (.bool false),
            Spec.val (.bool false),
            Spec.val (.pointer (some ⟨R, 0, none⟩)),
            Spec.val (.int .i64 (t : Int)),
            Spec.val (.int .i64 (t : Int)),
            Spec.val (.bool true),
            Spec.val (.bool true),
            Spec.val (.bool true),
            Spec.val (.bool true),
            Spec.val (.bool true),
            Spec.val (.bool true),
            Spec.val (.bool true)] w9 (by kernel_rfl) (by repeat (first | exact Below.refl _ _ | assumption | refine below_drewN ?_ _ | refine Below.drew ?_ | refine Below.alloc ?_ (Nat.le_refl _) _ | refine bal ?_ _ | refine bnext ?_ (by assumption))) (n := 195) rfl (by decide +kernel) ⟨?_, ?_, ?_, ?_, ?_, ?_, ?_, ?_, ?_, ?_, ?_, ?_, ?_, ?_, ?_, ?_, ?_, ?_, ?_, ?_, ?_, ?_, ?_, ?_, ?_, ?_, ?_, ?_, ?_, ?_, ?_, ?_, trivial⟩ ?_
          · intro ac wd hJ hfr hdep
            have s11 : ac.tmps.getD 11 undef = .int .i64 E := (hfr 11 (by decide)).trans rfl
            have s11' := slot' s11
            clear hfr hdep
            refine if_wanted rfl (fun Q => op_any (fun K hK => ?_))
            go_simp
            exact hK _ _ rfl hJ (Below.refl _ _)
          · intro ac wd hJ hfr hdep
            have s90 : ac.tmps.getD 90 undef = .int .i64 E := hdep 0 _ 90 (by decide) rfl rfl
            have s90' := slot' s90
            clear hfr hdep
            refine if_wanted rfl (fun Q => op_any (fun K hK => ?_))
            go_simp
            exact hK _ _ rfl hJ (Below.refl _ _)
          · intro ac wd hJ hfr hdep
            have s5 : ac.tmps.getD 5 undef = .pointer (some ⟨w.heap.size, 0, none⟩) := (hfr 5 (by decide)).trans rfl
            have s5' := slot' s5
            clear hfr hdep
            refine if_wanted rfl (fun Q => op_any (fun K hK => ?_))
            go_simp
            exact hK _ _ rfl hJ (Below.refl _ _)
          · intro ac wd hJ hfr hdep
            have s92 : ac.tmps.getD 92 undef = .pointer (some ⟨w.heap.size, 0, none⟩) := hdep 2 _ 92 (by decide) rfl rfl
            have s92' := slot' s92
            clear hfr hdep
            refine if_wanted rfl (fun Q => op_any (fun K hK => ?_))
            have hx := HC0.out wd hJ
            go_simp
            exact hK _ _ rfl hJ (Below.refl _ _)
          · intro ac wd hJ hfr hdep
            have s93 : ac.tmps.getD 93 undef = .int .i64 x := hdep 3 _ 93 (by decide) rfl rfl
            have s93' := slot' s93
            clear hfr hdep
            refine if_wanted rfl (fun Q => op_any (fun K hK => ?_))
            go_simp
            exact hK _ _ rfl hJ (Below.refl _ _)
          · intro ac wd hJ hfr hdep
            have s94 : ac.tmps.getD 94 undef = .bool true := hdep 4 _ 94 (by decide) rfl rfl
            have s94' := slot' s94
            clear hfr hdep
            refine if_wanted rfl (fun Q => op_any (fun K hK => ?_))
            go_simp
            exact hK _ _ rfl hJ (Below.refl _ _)
          · intro ac wd hJ hfr hdep
            have sg : ac.tmps.getD 95 undef = .bool true := hdep 5 _ 95 (by decide) rfl rfl
            have s5 : ac.tmps.getD 5 undef = .pointer (some ⟨w.heap.size, 0, none⟩) := (hfr 5 (by decide)).trans rfl
            have s5' := slot' s5
            clear hfr hdep
            refine if_wanted (wanted_yes rfl rfl rfl sg) (fun Q => op_any (fun K hK => ?_))
            go_simp
            exact hK _ _ rfl hJ (Below.refl _ _)
          · intro ac wd hJ hfr hdep
            have sg : ac.tmps.getD 95 undef = .bool true := hdep 5 _ 95 (by decide) rfl rfl
            have s96 : ac.tmps.getD 96 undef = .pointer (some ⟨w.heap.size, 0, none⟩) := hdep 6 _ 96 (by decide) rfl rfl
            have s96' := slot' s96
            clear hfr hdep
            refine if_wanted (wanted_yes rfl rfl rfl sg) (fun Q => op_any (fun K hK => ?_))
            have hx := HC0.out wd hJ
            go_simp
            exact hK _ _ rfl hJ (Below.refl _ _)
          · intro ac wd hJ hfr hdep
            have sg : ac.tmps.getD 95 undef = .bool true := hdep 5 _ 95 (by decide) rfl rfl
            have s97 : ac.tmps.getD 97 undef = .int .i64 x := hdep 7 _ 97 (by decide) rfl rfl
            have s97' := slot' s97
            clear hfr hdep
            refine if_wanted (wanted_yes rfl rfl rfl sg) (fun Q => op_any (fun K hK => ?_))
            go_simp
            exact hK _ _ rfl hJ (Below.refl _ _)
          · intro ac wd hJ hfr hdep
            have s95 : ac.tmps.getD 95 undef = .bool true := hdep 5 _ 95 (by decide) rfl rfl
            have s98 : ac.tmps.getD 98 undef = .bool false := hdep 8 _ 98 (by decide) rfl rfl
            have s95' := slot' s95
            have s98' := slot' s98
            clear hfr hdep
            refine if_wanted rfl (fun Q => op_any (fun K hK => ?_))
            go_simp
            exact hK _ _ rfl hJ (Below.refl _ _)
          · intro ac wd hJ hfr hdep
            have s99 : ac.tmps.getD 99 undef = .bool false := hdep 9 _ 99 (by decide) rfl rfl
            have s99' := slot' s99
            clear hfr hdep
            refine if_wanted rfl (fun Q => op_any (fun K hK => ?_))
            go_simp
            exact hK _ _ rfl hJ (Below.refl _ _)
          · intro ac wd hJ hfr hdep
            have sg : ac.tmps.getD 100 undef = .bool false := hdep 10 _ 100 (by decide) rfl rfl
            exact if_unwanted (wanted_no rfl rfl rfl sg (by decide)) rfl
          · intro ac wd hJ hfr hdep
            have sg : ac.tmps.getD 100 undef = .bool false := hdep 10 _ 100 (by decide) rfl rfl
            exact if_unwanted (wanted_no rfl rfl rfl sg (by decide)) rfl
          · intro ac wd hJ hfr hdep
            have sg : ac.tmps.getD 100 undef = .bool false := hdep 10 _ 100 (by decide) rfl rfl
            exact if_unwanted (wanted_no rfl rfl rfl sg (by decide)) rfl
          · intro ac wd hJ hfr hdep
            have sg : ac.tmps.getD 100 undef = .bool false := hdep 10 _ 100 (by decide) rfl rfl
            exact if_unwanted (wanted_no rfl rfl rfl sg (by decide)) rfl
          · intro ac wd hJ hfr hdep
            have sg : ac.tmps.getD 100 undef = .bool false := hdep 10 _ 100 (by decide) rfl rfl
            exact if_unwanted (wanted_no rfl rfl rfl sg (by decide)) rfl
          · intro ac wd hJ hfr hdep
            have s100 : ac.tmps.getD 100 undef = .bool false := hdep 10 _ 100 (by decide) rfl rfl
            have s105 : ac.tmps.getD 105 undef = undef := hdep 15 _ 105 (by decide) rfl rfl
            have s100' := slot' s100
            have s105' := slot' s105
            clear hfr hdep
            refine if_wanted rfl (fun Q => op_any (fun K hK => ?_))
            go_simp
            exact hK _ _ rfl hJ (Below.refl _ _)
          · intro ac wd hJ hfr hdep
            have s91 : ac.tmps.getD 91 undef = .bool false := hdep 1 _ 91 (by decide) rfl rfl
            have s106 : ac.tmps.getD 106 undef = (Value.bool false) := hdep 16 _ 106 (by decide) rfl rfl
            have s91' := slot' s91
            have s106' := slot' s106
            clear hfr hdep
            refine if_wanted rfl (fun Q => op_any (fun K hK => ?_))
            go_simp
            exact hK _ _ rfl hJ (Below.refl _ _)
          · intro ac wd hJ hfr hdep
            have s107 : ac.tmps.getD 107 undef = .bool true := hdep 17 _ 107 (by decide) rfl rfl
            have s107' := slot' s107
            clear hfr hdep
            refine if_wanted rfl (fun Q => op_any (fun K hK => ?_))
            go_simp
            exact hK _ _ rfl hJ (Below.refl _ _)
          · intro ac wd hJ hfr hdep
            have sg : ac.tmps.getD 108 undef = .bool true := hdep 18 _ 108 (by decide) rfl rfl
            have s11 : ac.tmps.getD 11 undef = .int .i64 E := (hfr 11 (by decide)).trans rfl
            have s11' := slot' s11
            clear hfr hdep
            refine if_wanted (wanted_yes rfl rfl rfl sg) (fun Q => op_any (fun K hK => ?_))
            go_simp
            exact hK _ _ rfl hJ (Below.refl _ _)
          · intro ac wd hJ hfr hdep
            have sg : ac.tmps.getD 108 undef = .bool true := hdep 18 _ 108 (by decide) rfl rfl
            have s109 : ac.tmps.getD 109 undef = .int .i64 E := hdep 19 _ 109 (by decide) rfl rfl
            have s109' := slot' s109
            clear hfr hdep
            refine if_wanted (wanted_yes rfl rfl rfl sg) (fun Q => op_any (fun K hK => ?_))
            go_simp
            exact hK _ _ rfl hJ (Below.refl _ _)
          · intro ac wd hJ hfr hdep
            have sg : ac.tmps.getD 108 undef = .bool true := hdep 18 _ 108 (by decide) rfl rfl
            have s110 : ac.tmps.getD 110 undef = .bool false := hdep 20 _ 110 (by decide) rfl rfl
            have s110' := slot' s110
            clear hfr hdep
            refine if_wanted (wanted_yes rfl rfl rfl sg) (fun Q => op_any (fun K hK => ?_))
            go_simp
            exact hK _ _ rfl hJ (Below.refl _ _)
          · intro ac wd hJ hfr hdep
            have sg : ac.tmps.getD 111 undef = .bool false := hdep 21 _ 111 (by decide) rfl rfl
            have s7 : ac.tmps.getD 7 undef = .pointer (some ⟨R, 0, none⟩) := (hfr 7 (by decide)).trans rfl
            have s7' := slot' s7
            clear hfr hdep
            refine if_wanted (wanted_yes rfl rfl rfl sg) (fun Q => op_any (fun K hK => ?_))
            go_simp
            exact hK _ _ rfl hJ (Below.refl _ _)
          · intro ac wd hJ hfr hdep
            have sg : ac.tmps.getD 111 undef = .bool false := hdep 21 _ 111 (by decide) rfl rfl
            have s112 : ac.tmps.getD 112 undef = .pointer (some ⟨R, 0, none⟩) := hdep 22 _ 112 (by decide) rfl rfl
            have s112' := slot' s112
            clear hfr hdep
            refine if_wanted (wanted_yes rfl rfl rfl sg) (fun Q => op_any (fun K hK => ?_))
            go_simp
            refine (HAt.out _ hJ).mono ?_
            rintro e w1 ⟨rfl, hb1⟩
            exact hK _ _ rfl (bnext hJ hb1) hb1
          · intro ac wd hJ hfr hdep
            have sg : ac.tmps.getD 111 undef = .bool false := hdep 21 _ 111 (by decide) rfl rfl
            have s9 : ac.tmps.getD 9 undef = .int .i64 (t : Int) := (hfr 9 (by decide)).trans rfl
            have s9' := slot' s9
            clear hfr hdep
            refine if_wanted (wanted_yes rfl rfl rfl sg) (fun Q => op_any (fun K hK => ?_))
            go_simp
            exact hK _ _ rfl hJ (Below.refl _ _)
          · intro ac wd hJ hfr hdep
            have sg : ac.tmps.getD 111 undef = .bool false := hdep 21 _ 111 (by decide) rfl rfl
            have s113 : ac.tmps.getD 113 undef = .int .i64 (t : Int) := hdep 23 _ 113 (by decide) rfl rfl
            have s114 : ac.tmps.getD 114 undef = .int .i64 (t : Int) := hdep 24 _ 114 (by decide) rfl rfl
            have s113' := slot' s113
            have s114' := slot' s114
            clear hfr hdep
            refine if_wanted (wanted_yes rfl rfl rfl sg) (fun Q => op_any (fun K hK => ?_))
            go_simp
            exact hK _ _ rfl hJ (Below.refl _ _)
          · intro ac wd hJ hfr hdep
            have sg : ac.tmps.getD 108 undef = .bool true := hdep 18 _ 108 (by decide) rfl rfl
            have s111 : ac.tmps.getD 111 undef = .bool false := hdep 21 _ 111 (by decide) rfl rfl
            have s115 : ac.tmps.getD 115 undef = .bool true := hdep 25 _ 115 (by decide) rfl rfl
            have s111' := slot' s111
            have s115' := slot' s115
            clear hfr hdep
            refine if_wanted (wanted_yes rfl rfl rfl sg) (fun Q => op_any (fun K hK => ?_))
            go_simp
            exact hK _ _ rfl hJ (Below.refl _ _)
          · intro ac wd hJ hfr hdep
            have s108 : ac.tmps.getD 108 undef = .bool true := hdep 18 _ 108 (by decide) rfl rfl
            have s116 : ac.tmps.getD 116 undef = .bool true := hdep 26 _ 116 (by decide) rfl rfl
            have s108' := slot' s108
            have s116' := slot' s116
            clear hfr hdep
            refine if_wanted rfl (fun Q => op_any (fun K hK => ?_))
            go_simp
            exact hK _ _ rfl hJ (Below.refl _ _)
          · intro ac wd hJ hfr hdep
            have s117 : ac.tmps.getD 117 undef = .bool true := hdep 27 _ 117 (by decide) rfl rfl
            have s117' := slot' s117
            clear hfr hdep
            refine if_wanted rfl (fun Q => op_any (fun K hK => ?_))
            go_simp
            exact hK _ _ rfl hJ (Below.refl _ _)
          · intro ac wd hJ hfr hdep
            have sg : ac.tmps.getD 118 undef = .bool true := hdep 28 _ 118 (by decide) rfl rfl
            clear hfr hdep
            refine if_wanted (wanted_yes rfl rfl rfl sg) (fun Q => op_any (fun K hK => ?_))
            go_simp
            refine (awake_any _).mono ?_
            rintro e w1 ⟨rfl, hb1⟩
            exact hK _ _ rfl (bnext hJ hb1) hb1
          · intro ac wd hJ hfr hdep
            have s118 : ac.tmps.getD 118 undef = .bool true := hdep 28 _ 118 (by decide) rfl rfl
            have s119 : ac.tmps.getD 119 undef = .bool true := hdep 29 _ 119 (by decide) rfl rfl
            have s118' := slot' s118
            have s119' := slot' s119
            clear hfr hdep
            refine if_wanted rfl (fun Q => op_any (fun K hK => ?_))
            go_simp
            exact hK _ _ rfl hJ (Below.refl _ _)
          · intro ac wd hJ hfr hdep
            have s120 : ac.tmps.getD 120 undef = .bool true := hdep 30 _ 120 (by decide) rfl rfl
            have s120' := slot' s120
            clear hfr hdep
            refine if_wanted rfl (fun Q => op_any (fun K hK => ?_))
            go_simp
            exact hK _ _ rfl hJ (Below.refl _ _)
          intro f w' hJ hR
          have e0 : f 0 = .int .i64 E := hR 0 (by decide)
          have e1 : f 1 = .bool false := hR 1 (by decide)
          have e2 : f 2 = .pointer (some ⟨w.heap.size, 0, none⟩) := hR 2 (by decide)
          have e3 : f 3 = .int .i64 x := hR 3 (by decide)
          have e4 : f 4 = .bool true := hR 4 (by decide)
          have e5 : f 5 = .bool true := hR 5 (by decide)
          have e6 : f 6 = .pointer (some ⟨w.heap.size, 0, none⟩) := hR 6 (by decide)
          have e7 : f 7 = .int .i64 x := hR 7 (by decide)
          have e8 : f 8 = .bool false := hR 8 (by decide)
          have e9 : f 9 = .bool false := hR 9 (by decide)
          have e10 : f 10 = .bool false := hR 10 (by decide)
          have e11 : f 11 = undef := hR 11 (by decide)
          have e12 : f 12 = undef := hR 12 (by decide)
          have e13 : f 13 = undef := hR 13 (by decide)
          have e14 : f 14 = undef := hR 14 (by decide)
          have e15 : f 15 = undef := hR 15 (by decide)
          have e16 : f 16 = (Value.bool false) := hR 16 (by decide)
          have e17 : f 17 = .bool true := hR 17 (by decide)
          have e18 : f 18 = .bool true := hR 18 (by decide)
          have e19 : f 19 = .int .i64 E := hR 19 (by decide)
          have e20 : f 20 = .bool false := hR 20 (by decide)
          have e21 : f 21 = .bool false := hR 21 (by decide)
          have e22 : f 22 = .pointer (some ⟨R, 0, none⟩) := hR 22 (by decide)
          have e23 : f 23 = .int .i64 (t : Int) := hR 23 (by decide)
          have e24 : f 24 = .int .i64 (t : Int) := hR 24 (by decide)
          have e25 : f 25 = .bool true := hR 25 (by decide)
          have e26 : f 26 = .bool true := hR 26 (by decide)
          have e27 : f 27 = .bool true := hR 27 (by decide)
          have e28 : f 28 = .bool true := hR 28 (by decide)
          have e29 : f 29 = .bool true := hR 29 (by decide)
          have e30 : f 30 = .bool true := hR 30 (by decide)
          have e31 : f 31 = .bool true := hR 31 (by decide)
          clear hR
          simp only [finA, Act.put, List.setIfInBounds_toArray, List.set_cons_succ, List.set_cons_zero, Nat.reduceAdd, e0, e1, e2, e3, e4, e5, e6, e7, e8, e9, e10, e11, e12, e13, e14, e15, e16, e17, e18, e19, e20, e21, e22, e23, e24, e25, e26, e27, e28, e29, e30, e31]
          clear e0 e1 e2 e3 e4 e5 e6 e7 e8 e9 e10 e11 e12 e13 e14 e15 e16 e17 e18 e19 e20 e21 e22 e23 e24 e25 e26 e27 e28 e29 e30 e31
          have hend : Below w.heap.size w w' := bnext Hb9.out hJ
          go_wp2_with fail
          go_ret
          exact ⟨rfl, hend⟩
        · have d1 : decide (0 ≤ x) = true := by rw [decide_eq_true_iff]; exact g1
          have d2 : decide (x ≤ 48) = true := by rw [decide_eq_true_iff]; exact g2
          have d3 : decide (x ≤ 8 * (l.length : Int) - (t : Int)) = false := by rw [decide_eq_false_iff_not]; omega
          go_wp2_with fail
          refine wp_region_specs [
            Spec.val (.int .i64 E),
            Spec.val (.bool false),
            Spec.val (.pointer (some ⟨w.heap.size, 0, none⟩)),
            Spec.val (.int .i64 x),
            Spec.val (.bool true),
            Spec.val (.bool true),
            Spec.val (.pointer (some ⟨w.heap.size, 0, none⟩)),
            Spec.val (.int .i64 x),
            Spec.val (.bool true),
            Spec.val (.bool true),
            Spec.val (.bool true),
            Spec.val (.pointer (some ⟨w.heap.size, 0, none⟩)),
            Spec.val (.int .i64 x),
            Spec.val (.pointer (some ⟨X, 0, none⟩)),
            Spec.val (.int .i64 (8 * (l.length : Int) - (t : Int))),
            Spec.val (.bool false),
            Spec.val (.bool false),
            Spec.val (.bool true),
            Spec.val (.bool true),
            Spec.val (.int .i64 E),
            Spec.val (.bool false),
            Spec.val (.bool false),
            Spec.val (.pointer (some ⟨R, 0, none⟩)),
            Spec.val (.int .i64 (t : Int)),
            Spec.val (.int .i64 (t : Int)),
            Spec.val (.bool true),
            Spec.val (.bool true),
            Spec.val (.bool true),
            Spec.val (.bool true),
            Spec.val (.bool true),
            Spec.val (.bool true),
            Spec.val (.bool true)] w9 (by kernel_rfl) (by repeat (first | exact Below.refl _ _ | assumption | refine below_drewN ?_ _ | refine Below.drew ?_ | refine Below.alloc ?_ (Nat.le_refl _) _ | refine bal ?_ _ | refine bnext ?_ (by assumption))) (n := 195) rfl (by decide +kernel) ⟨?_, ?_, ?_, ?_, ?_, ?_, ?_, ?_, ?_, ?_, ?_, ?_, ?_, ?_, ?_, ?_, ?_, ?_, ?_, ?_, ?_, ?_, ?_, ?_, ?_, ?_, ?_, ?_, ?_, ?_, ?_, ?_, trivial⟩ ?_
          · intro ac wd hJ hfr hdep
            have s11 : ac.tmps.getD 11 undef = .int .i64 E := (hfr 11 (by decide)).trans rfl
            have s11' := slot' s11
            clear hfr hdep
            refine if_wanted rfl (fun Q => op_any (fun K hK => ?_))
            go_simp
            exact hK _ _ rfl hJ (Below.refl _ _)
          · intro ac wd hJ hfr hdep
            have s90 : ac.tmps.getD 90 undef = .int .i64 E := hdep 0 _ 90 (by decide) rfl rfl
            have s90' := slot' s90
            clear hfr hdep
            refine if_wanted rfl (fun Q => op_any (fun K hK => ?_))
            go_simp
            exact hK _ _ rfl hJ (Below.refl _ _)
          · intro ac wd hJ hfr hdep
            have s5 : ac.tmps.getD 5 undef = .pointer (some ⟨w.heap.size, 0, none⟩) := (hfr 5 (by decide)).trans rfl
            have s5' := slot' s5
            clear hfr hdep
            refine if_wanted rfl (fun Q => op_any (fun K hK => ?_))
            go_simp
            exact hK _ _ rfl hJ (Below.refl _ _)
          · intro ac wd hJ hfr hdep
            have s92 : ac.tmps.getD 92 undef = .pointer (some ⟨w.heap.size, 0, none⟩) := hdep 2 _ 92 (by decide) rfl rfl
            have s92' := slot' s92
            clear hfr hdep
            refine if_wanted rfl (fun Q => op_any (fun K hK => ?_))
            have hx := HC0.out wd hJ
            go_simp
            exact hK _ _ rfl hJ (Below.refl _ _)
          · intro ac wd hJ hfr hdep
            have s93 : ac.tmps.getD 93 undef = .int .i64 x := hdep 3 _ 93 (by decide) rfl rfl
            have s93' := slot' s93
            clear hfr hdep
            refine if_wanted rfl (fun Q => op_any (fun K hK => ?_))
            go_simp
            exact hK _ _ rfl hJ (Below.refl _ _)
          · intro ac wd hJ hfr hdep
            have s94 : ac.tmps.getD 94 undef = .bool true := hdep 4 _ 94 (by decide) rfl rfl
            have s94' := slot' s94
            clear hfr hdep
            refine if_wanted rfl (fun Q => op_any (fun K hK => ?_))
            go_simp
            exact hK _ _ rfl hJ (Below.refl _ _)
          · intro ac wd hJ hfr hdep
            have sg : ac.tmps.getD 95 undef = .bool true := hdep 5 _ 95 (by decide) rfl rfl
            have s5 : ac.tmps.getD 5 undef = .pointer (some ⟨w.heap.size, 0, none⟩) := (hfr 5 (by decide)).trans rfl
            have s5' := slot' s5
            clear hfr hdep
            refine if_wanted (wanted_yes rfl rfl rfl sg) (fun Q => op_any (fun K hK => ?_))
            go_simp
            exact hK _ _ rfl hJ (Below.refl _ _)
          · intro ac wd hJ hfr hdep
            have sg : ac.tmps.getD 95 undef = .bool true := hdep 5 _ 95 (by decide) rfl rfl
            have s96 : ac.tmps.getD 96 undef = .pointer (some ⟨w.heap.size, 0, none⟩) := hdep 6 _ 96 (by decide) rfl rfl
            have s96' := slot' s96
            clear hfr hdep
            refine if_wanted (wanted_yes rfl rfl rfl sg) (fun Q => op_any (fun K hK => ?_))
            have hx := HC0.out wd hJ
            go_simp
            exact hK _ _ rfl hJ (Below.refl _ _)
          · intro ac wd hJ hfr hdep
            have sg : ac.tmps.getD 95 undef = .bool true := hdep 5 _ 95 (by decide) rfl rfl
            have s97 : ac.tmps.getD 97 undef = .int .i64 x := hdep 7 _ 97 (by decide) rfl rfl
            have s97' := slot' s97
            clear hfr hdep
            refine if_wanted (wanted_yes rfl rfl rfl sg) (fun Q => op_any (fun K hK => ?_))
            go_simp
            exact hK _ _ rfl hJ (Below.refl _ _)
          · intro ac wd hJ hfr hdep
            have s95 : ac.tmps.getD 95 undef = .bool true := hdep 5 _ 95 (by decide) rfl rfl
            have s98 : ac.tmps.getD 98 undef = .bool true := hdep 8 _ 98 (by decide) rfl rfl
            have s95' := slot' s95
            have s98' := slot' s98
            clear hfr hdep
            refine if_wanted rfl (fun Q => op_any (fun K hK => ?_))
            go_simp
            exact hK _ _ rfl hJ (Below.refl _ _)
          · intro ac wd hJ hfr hdep
            have s99 : ac.tmps.getD 99 undef = .bool true := hdep 9 _ 99 (by decide) rfl rfl
            have s99' := slot' s99
            clear hfr hdep
            refine if_wanted rfl (fun Q => op_any (fun K hK => ?_))
            go_simp
            exact hK _ _ rfl hJ (Below.refl _ _)
          · intro ac wd hJ hfr hdep
            have sg : ac.tmps.getD 100 undef = .bool true := hdep 10 _ 100 (by decide) rfl rfl
            have s5 : ac.tmps.getD 5 undef = .pointer (some ⟨w.heap.size, 0, none⟩) := (hfr 5 (by decide)).trans rfl
            have s5' := slot' s5
            clear hfr hdep
            refine if_wanted (wanted_yes rfl rfl rfl sg) (fun Q => op_any (fun K hK => ?_))
            go_simp
            exact hK _ _ rfl hJ (Below.refl _ _)
          · intro ac wd hJ hfr hdep
            have sg : ac.tmps.getD 100 undef = .bool true := hdep 10 _ 100 (by decide) rfl rfl
            have s101 : ac.tmps.getD 101 undef = .pointer (some ⟨w.heap.size, 0, none⟩) := hdep 11 _ 101 (by decide) rfl rfl
            have s101' := slot' s101
            clear hfr hdep
            refine if_wanted (wanted_yes rfl rfl rfl sg) (fun Q => op_any (fun K hK => ?_))
            have hx := HC0.out wd hJ
            go_simp
            exact hK _ _ rfl hJ (Below.refl _ _)
          · intro ac wd hJ hfr hdep
            have sg : ac.tmps.getD 100 undef = .bool true := hdep 10 _ 100 (by decide) rfl rfl
            have s8 : ac.tmps.getD 8 undef = .pointer (some ⟨X, 0, none⟩) := (hfr 8 (by decide)).trans rfl
            have s8' := slot' s8
            clear hfr hdep
            refine if_wanted (wanted_yes rfl rfl rfl sg) (fun Q => op_any (fun K hK => ?_))
            go_simp
            exact hK _ _ rfl hJ (Below.refl _ _)
          · intro ac wd hJ hfr hdep
            have sg : ac.tmps.getD 100 undef = .bool true := hdep 10 _ 100 (by decide) rfl rfl
            have s103 : ac.tmps.getD 103 undef = .pointer (some ⟨X, 0, none⟩) := hdep 13 _ 103 (by decide) rfl rfl
            have s103' := slot' s103
            clear hfr hdep
            refine if_wanted (wanted_yes rfl rfl rfl sg) (fun Q => op_any (fun K hK => ?_))
            go_simp
            refine (HLf.out _ hJ).mono ?_
            rintro e w1 ⟨rfl, hb1⟩
            exact hK _ _ rfl (bnext hJ hb1) hb1
          · intro ac wd hJ hfr hdep
            have sg : ac.tmps.getD 100 undef = .bool true := hdep 10 _ 100 (by decide) rfl rfl
            have s102 : ac.tmps.getD 102 undef = .int .i64 x := hdep 12 _ 102 (by decide) rfl rfl
            have s104 : ac.tmps.getD 104 undef = .int .i64 (8 * (l.length : Int) - (t : Int)) := hdep 14 _ 104 (by decide) rfl rfl
            have s102' := slot' s102
            have s104' := slot' s104
            clear hfr hdep
            refine if_wanted (wanted_yes rfl rfl rfl sg) (fun Q => op_any (fun K hK => ?_))
            go_simp
            exact hK _ _ rfl hJ (Below.refl _ _)
          · intro ac wd hJ hfr hdep
            have s100 : ac.tmps.getD 100 undef = .bool true := hdep 10 _ 100 (by decide) rfl rfl
            have s105 : ac.tmps.getD 105 undef = .bool false := hdep 15 _ 105 (by decide) rfl rfl
            have s100' := slot' s100
            have s105' := slot' s105
            clear hfr hdep
            refine if_wanted rfl (fun Q => op_any (fun K hK => ?_))
            go_simp
            exact hK _ _ rfl hJ (Below.refl _ _)
          · intro ac wd hJ hfr hdep
            have s91 : ac.tmps.getD 91 undef = .bool false := hdep 1 _ 91 (by decide) rfl rfl
            have s106 : ac.tmps.getD 106 undef = .bool false := hdep 16 _ 106 (by decide) rfl rfl
            have s91' := slot' s91
            have s106' := slot' s106
            clear hfr hdep
            refine if_wanted rfl (fun Q => op_any (fun K hK => ?_))
            go_simp
            exact hK _ _ rfl hJ (Below.refl _ _)
          · intro ac wd hJ hfr hdep
            have s107 : ac.tmps.getD 107 undef = .bool true := hdep 17 _ 107 (by decide) rfl rfl
            have s107' := slot' s107
            clear hfr hdep
            refine if_wanted rfl (fun Q => op_any (fun K hK => ?_))
            go_simp
            exact hK _ _ rfl hJ (Below.refl _ _)
          · intro ac wd hJ hfr hdep
            have sg : ac.tmps.getD 108 undef = .bool true := hdep 18 _ 108 (by decide) rfl rfl
            have s11 : ac.tmps.getD 11 undef = .int .i64 E := (hfr 11 (by decide)).trans rfl
            have s11' := slot' s11
            clear hfr hdep
            refine if_wanted (wanted_yes rfl rfl rfl sg) (fun Q => op_any (fun K hK => ?_))
            go_simp
            exact hK _ _ rfl hJ (Below.refl _ _)
          · intro ac wd hJ hfr hdep
            have sg : ac.tmps.getD 108 undef = .bool true := hdep 18 _ 108 (by decide) rfl rfl
            have s109 : ac.tmps.getD 109 undef = .int .i64 E := hdep 19 _ 109 (by decide) rfl rfl
            have s109' := slot' s109
            clear hfr hdep
            refine if_wanted (wanted_yes rfl rfl rfl sg) (fun Q => op_any (fun K hK => ?_))
            go_simp
            exact hK _ _ rfl hJ (Below.refl _ _)
          · intro ac wd hJ hfr hdep
            have sg : ac.tmps.getD 108 undef = .bool true := hdep 18 _ 108 (by decide) rfl rfl
            have s110 : ac.tmps.getD 110 undef = .bool false := hdep 20 _ 110 (by decide) rfl rfl
            have s110' := slot' s110
            clear hfr hdep
            refine if_wanted (wanted_yes rfl rfl rfl sg) (fun Q => op_any (fun K hK => ?_))
            go_simp
            exact hK _ _ rfl hJ (Below.refl _ _)
          · intro ac wd hJ hfr hdep
            have sg : ac.tmps.getD 111 undef = .bool false := hdep 21 _ 111 (by decide) rfl rfl
            have s7 : ac.tmps.getD 7 undef = .pointer (some ⟨R, 0, none⟩) := (hfr 7 (by decide)).trans rfl
            have s7' := slot' s7
            clear hfr hdep
            refine if_wanted (wanted_yes rfl rfl rfl sg) (fun Q => op_any (fun K hK => ?_))
            go_simp
            exact hK _ _ rfl hJ (Below.refl _ _)
          · intro ac wd hJ hfr hdep
            have sg : ac.tmps.getD 111 undef = .bool false := hdep 21 _ 111 (by decide) rfl rfl
            have s112 : ac.tmps.getD 112 undef = .pointer (some ⟨R, 0, none⟩) := hdep 22 _ 112 (by decide) rfl rfl
            have s112' := slot' s112
            clear hfr hdep
            refine if_wanted (wanted_yes rfl rfl rfl sg) (fun Q => op_any (fun K hK => ?_))
            go_simp
            refine (HAt.out _ hJ).mono ?_
            rintro e w1 ⟨rfl, hb1⟩
            exact hK _ _ rfl (bnext hJ hb1) hb1
          · intro ac wd hJ hfr hdep
            have sg : ac.tmps.getD 111 undef = .bool false := hdep 21 _ 111 (by decide) rfl rfl
            have s9 : ac.tmps.getD 9 undef = .int .i64 (t : Int) := (hfr 9 (by decide)).trans rfl
            have s9' := slot' s9
            clear hfr hdep
            refine if_wanted (wanted_yes rfl rfl rfl sg) (fun Q => op_any (fun K hK => ?_))
            go_simp
            exact hK _ _ rfl hJ (Below.refl _ _)
          · intro ac wd hJ hfr hdep
            have sg : ac.tmps.getD 111 undef = .bool false := hdep 21 _ 111 (by decide) rfl rfl
            have s113 : ac.tmps.getD 113 undef = .int .i64 (t : Int) := hdep 23 _ 113 (by decide) rfl rfl
            have s114 : ac.tmps.getD 114 undef = .int .i64 (t : Int) := hdep 24 _ 114 (by decide) rfl rfl
            have s113' := slot' s113
            have s114' := slot' s114
            clear hfr hdep
            refine if_wanted (wanted_yes rfl rfl rfl sg) (fun Q => op_any (fun K hK => ?_))
            go_simp
            exact hK _ _ rfl hJ (Below.refl _ _)
          · intro ac wd hJ hfr hdep
            have sg : ac.tmps.getD 108 undef = .bool true := hdep 18 _ 108 (by decide) rfl rfl
            have s111 : ac.tmps.getD 111 undef = .bool false := hdep 21 _ 111 (by decide) rfl rfl
            have s115 : ac.tmps.getD 115 undef = .bool true := hdep 25 _ 115 (by decide) rfl rfl
            have s111' := slot' s111
            have s115' := slot' s115
            clear hfr hdep
            refine if_wanted (wanted_yes rfl rfl rfl sg) (fun Q => op_any (fun K hK => ?_))
            go_simp
            exact hK _ _ rfl hJ (Below.refl _ _)
          · intro ac wd hJ hfr hdep
            have s108 : ac.tmps.getD 108 undef = .bool true := hdep 18 _ 108 (by decide) rfl rfl
            have s116 : ac.tmps.getD 116 undef = .bool true := hdep 26 _ 116 (by decide) rfl rfl
            have s108' := slot' s108
            have s116' := slot' s116
            clear hfr hdep
            refine if_wanted rfl (fun Q => op_any (fun K hK => ?_))
            go_simp
            exact hK _ _ rfl hJ (Below.refl _ _)
          · intro ac wd hJ hfr hdep
            have s117 : ac.tmps.getD 117 undef = .bool true := hdep 27 _ 117 (by decide) rfl rfl
            have s117' := slot' s117
            clear hfr hdep
            refine if_wanted rfl (fun Q => op_any (fun K hK => ?_))
            go_simp
            exact hK _ _ rfl hJ (Below.refl _ _)
          · intro ac wd hJ hfr hdep
            have sg : ac.tmps.getD 118 undef = .bool true := hdep 28 _ 118 (by decide) rfl rfl
            clear hfr hdep
            refine if_wanted (wanted_yes rfl rfl rfl sg) (fun Q => op_any (fun K hK => ?_))
            go_simp
            refine (awake_any _).mono ?_
            rintro e w1 ⟨rfl, hb1⟩
            exact hK _ _ rfl (bnext hJ hb1) hb1
          · intro ac wd hJ hfr hdep
            have s118 : ac.tmps.getD 118 undef = .bool true := hdep 28 _ 118 (by decide) rfl rfl
            have s119 : ac.tmps.getD 119 undef = .bool true := hdep 29 _ 119 (by decide) rfl rfl
            have s118' := slot' s118
            have s119' := slot' s119
            clear hfr hdep
            refine if_wanted rfl (fun Q => op_any (fun K hK => ?_))
            go_simp
            exact hK _ _ rfl hJ (Below.refl _ _)
          · intro ac wd hJ hfr hdep
            have s120 : ac.tmps.getD 120 undef = .bool true := hdep 30 _ 120 (by decide) rfl rfl
            have s120' := slot' s120
            clear hfr hdep
            refine if_wanted rfl (fun Q => op_any (fun K hK => ?_))
            go_simp
            exact hK _ _ rfl hJ (Below.refl _ _)
          intro f w' hJ hR
          have e0 : f 0 = .int .i64 E := hR 0 (by decide)
          have e1 : f 1 = .bool false := hR 1 (by decide)
          have e2 : f 2 = .pointer (some ⟨w.heap.size, 0, none⟩) := hR 2 (by decide)
          have e3 : f 3 = .int .i64 x := hR 3 (by decide)
          have e4 : f 4 = .bool true := hR 4 (by decide)
          have e5 : f 5 = .bool true := hR 5 (by decide)
          have e6 : f 6 = .pointer (some ⟨w.heap.size, 0, none⟩) := hR 6 (by decide)
          have e7 : f 7 = .int .i64 x := hR 7 (by decide)
          have e8 : f 8 = .bool true := hR 8 (by decide)
          have e9 : f 9 = .bool true := hR 9 (by decide)
          have e10 : f 10 = .bool true := hR 10 (by decide)
          have e11 : f 11 = .pointer (some ⟨w.heap.size, 0, none⟩) := hR 11 (by decide)
          have e12 : f 12 = .int .i64 x := hR 12 (by decide)
          have e13 : f 13 = .pointer (some ⟨X, 0, none⟩) := hR 13 (by decide)
          have e14 : f 14 = .int .i64 (8 * (l.length : Int) - (t : Int)) := hR 14 (by decide)
          have e15 : f 15 = .bool false := hR 15 (by decide)
          have e16 : f 16 = .bool false := hR 16 (by decide)
          have e17 : f 17 = .bool true := hR 17 (by decide)
          have e18 : f 18 = .bool true := hR 18 (by decide)
          have e19 : f 19 = .int .i64 E := hR 19 (by decide)
          have e20 : f 20 = .bool false := hR 20 (by decide)
          have e21 : f 21 = .bool false := hR 21 (by decide)
          have e22 : f 22 = .pointer (some ⟨R, 0, none⟩) := hR 22 (by decide)
          have e23 : f 23 = .int .i64 (t : Int) := hR 23 (by decide)
          have e24 : f 24 = .int .i64 (t : Int) := hR 24 (by decide)
          have e25 : f 25 = .bool true := hR 25 (by decide)
          have e26 : f 26 = .bool true := hR 26 (by decide)
          have e27 : f 27 = .bool true := hR 27 (by decide)
          have e28 : f 28 = .bool true := hR 28 (by decide)
          have e29 : f 29 = .bool true := hR 29 (by decide)
          have e30 : f 30 = .bool true := hR 30 (by decide)
          have e31 : f 31 = .bool true := hR 31 (by decide)
          clear hR
          simp only [finA, Act.put, List.setIfInBounds_toArray, List.set_cons_succ, List.set_cons_zero, Nat.reduceAdd, e0, e1, e2, e3, e4, e5, e6, e7, e8, e9, e10, e11, e12, e13, e14, e15, e16, e17, e18, e19, e20, e21, e22, e23, e24, e25, e26, e27, e28, e29, e30, e31]
          clear e0 e1 e2 e3 e4 e5 e6 e7 e8 e9 e10 e11 e12 e13 e14 e15 e16 e17 e18 e19 e20 e21 e22 e23 e24 e25 e26 e27 e28 e29 e30 e31
          have hend : Below w.heap.size w w' := bnext Hb9.out hJ
          go_wp2_with fail
          go_ret
          exact ⟨rfl, hend⟩
end Go.Proofs.Ytfncmgojeaeihaa
