/-
  jetsamlaw06.PredictTells: its walk. (Printed by wip/gen/tells06.py.)
-/
import Derived.Test.YtghnjgemjiekgaaDoorAwake06
import Derived.Test.YtghnjgemjiekgaaDoorMono
namespace Go.Proofs.YtghnjgemjiekgaaDoor
open Go.RowKit

set_option maxRecDepth 100000 in
set_option maxHeartbeats 2000000 in
theorem predictTells_walk (pr sh : Int) (cs ls : List Int) (Ac A : Option Addr) (cc c : Nat) (w : World) (hF : FixAt w) (hrc : Rd w Ac (zv cs)) (hrl : Rd w A (zv ls)) (hcap : ls.length ≤ c) (hcap63 : c ≤ 9223372036854775807) (hcl : cs.length ≤ 9223372036854775807) :
    Calls Tryd.prog 3 #[.agg #[.int .i64 pr, .int .i64 sh, .slice Ac cs.length cc], .slice A ls.length c] w fun e w' => e = .returned (.bool true) ∧ Below w.heap.size w w' := by
  have HF := Lib.hid hF; clear hF
  by_cases h40 : 40 < cs.length
  · clear hrc hrl
    generalize cs.length = m at *
    go_enter Tryd.func3, Tryd.ntmps3
    go_wp2_with fail
    refine (awake_any _ (HF.out.below (by repeat (first | exact Below.refl _ _ | assumption | refine below_drewN ?_ _ | refine Below.drew ?_ | refine Below.alloc ?_ (Nat.le_refl _) _ | refine bal ?_ _ | refine bnext ?_ (by assumption))))).mono ?_
    rintro e w1 ⟨rfl, hb1⟩
    go_wp2_with fail
    go_ret
    exact ⟨rfl, by repeat (first | exact Below.refl _ _ | assumption | refine below_drewN ?_ _ | refine Below.drew ?_ | refine Below.alloc ?_ (Nat.le_refl _) _ | refine bal ?_ _ | refine bnext ?_ (by assumption))⟩
  by_cases h100 : 100 < ls.length
  · clear hrc hrl
    generalize cs.length = m at *
    generalize ls.length = n at *
    go_enter Tryd.func3, Tryd.ntmps3
    go_wp2_with fail
    refine (awake_any _ (HF.out.below (by repeat (first | exact Below.refl _ _ | assumption | refine below_drewN ?_ _ | refine Below.drew ?_ | refine Below.alloc ?_ (Nat.le_refl _) _ | refine bal ?_ _ | refine bnext ?_ (by assumption))))).mono ?_
    rintro e w1 ⟨rfl, hb1⟩
    go_wp2_with fail
    go_ret
    exact ⟨rfl, by repeat (first | exact Below.refl _ _ | assumption | refine below_drewN ?_ _ | refine Below.drew ?_ | refine Below.alloc ?_ (Nat.le_refl _) _ | refine bal ?_ _ | refine bnext ?_ (by assumption))⟩
  have HR := Lib.hid (fun W (hW : Below w.heap.size w W) => Residual_all pr sh cs ls Ac A cc c W (hrc.below hW) (hrl.below hW) (by omega) (by omega) hcap hcap63)
  have HRR := Lib.hid (fun W (hW : Below w.heap.size w W) => RResidual_any pr sh cs ls Ac A cc c W (hrc.below hW) (hrl.below hW) (by omega) (by omega) hcap)
  have HC := Lib.hid (fun W (hW : Below w.heap.size w W) => Check_any pr sh cs Ac cc W (hrc.below hW) hcl)
  have HRC := Lib.hid (fun W (hW : Below w.heap.size w W) => RCheck_any pr sh cs Ac cc W (hrc.below hW) hcl)
  have HLl : Hid ((resL pr sh cs ls).length ≤ 100) := by
    show _ ≤ _
    unfold resL
    split
    · rw [resN_length]; omega
    · simp
  generalize resE pr sh cs ls = E at *
  generalize resL pr sh cs ls = L at *
  generalize chkP (okL pr sh cs) = K0 at *
  clear hrc hrl
  generalize cs.length = m at *
  generalize ls.length = n at *
  go_enter Tryd.func3, Tryd.ntmps3
  go_wp2_with fail
  have hb0 : Below w.heap.size w (w.alloc (.cells #[.int .i64 pr, .int .i64 sh, .slice Ac m cc] 24)) := by repeat (first | exact Below.refl _ _ | assumption | refine below_drewN ?_ _ | refine Below.drew ?_ | refine Below.alloc ?_ (Nat.le_refl _) _ | refine bal ?_ _ | refine bnext ?_ (by assumption))
  refine (HR.out _ hb0).mono ?_
  rintro e w1 ⟨v1, rfl, Hown1, hb1⟩
  obtain ⟨A1, c1, rfl, hc1, hr1⟩ := own_rd Hown1.out
  have hp0 : w1.cell? ⟨w.heap.size, 0, none⟩ = some (.int .i64 pr) := (hb1.cell (p := ⟨w.heap.size, 0, none⟩) (by simp)).trans (by go_simp)
  have hp1 : w1.cell? ⟨w.heap.size, 1, none⟩ = some (.int .i64 sh) := (hb1.cell (p := ⟨w.heap.size, 1, none⟩) (by simp)).trans (by go_simp)
  have hp2 : w1.cell? ⟨w.heap.size, 2, none⟩ = some (.slice Ac m cc) := (hb1.cell (p := ⟨w.heap.size, 2, none⟩) (by simp)).trans (by go_simp)
  have HP1 : Hid (w1.cell? ⟨w.heap.size, 0, none⟩ = some (.int .i64 pr) ∧ w1.cell? ⟨w.heap.size, 1, none⟩ = some (.int .i64 sh) ∧ w1.cell? ⟨w.heap.size, 2, none⟩ = some (.slice Ac m cc)) := ⟨hp0, hp1, hp2⟩
  have Hr1 := Lib.hid hr1
  have hb2 := bnext hb0 hb1
  clear hr1 Hown1 hb1 hb0 HR
  go_wp2_with fail
  clear hp0 hp1 hp2
  refine (Plain_any pr sh Ac m cc _).mono ?_
  rintro e w2 ⟨rfl, hb3⟩
  have hb4 := bnext hb2 hb3
  go_wp2_with fail
  refine (HRR.out _ hb4).mono ?_
  rintro e w3 ⟨v3, rfl, Hown3, hb5⟩
  obtain ⟨A3, c3, rfl, hc3, hr3⟩ := own_rd Hown3.out
  have Hr3 := Lib.hid hr3
  have hb13 : Below w1.heap.size w1 w3 := bnext hb3 hb5
  have hb6 := bnext hb4 hb5
  clear hr3 Hown3 hb5 hb4 hb3 hb2 HRR
  have QP : Hid (∀ W, Below w3.heap.size w3 W → W.cell? ⟨w.heap.size, 0, none⟩ = some (.int .i64 pr) ∧ W.cell? ⟨w.heap.size, 1, none⟩ = some (.int .i64 sh) ∧ W.cell? ⟨w.heap.size, 2, none⟩ = some (.slice Ac m cc)) := by
    intro W hW
    have hW1 : Below w1.heap.size w1 W := bnext hb13 hW
    exact ⟨(hW1.cell (p := ⟨w.heap.size, 0, none⟩) (cell_lt HP1.out.1)).trans HP1.out.1, (hW1.cell (p := ⟨w.heap.size, 1, none⟩) (cell_lt HP1.out.2.1)).trans HP1.out.2.1, (hW1.cell (p := ⟨w.heap.size, 2, none⟩) (cell_lt HP1.out.2.2)).trans HP1.out.2.2⟩
  have QI : Hid (∀ W, Below w3.heap.size w3 W → Calls Tryd.prog 14 #[.slice A1 L.length c1, .slice A3 L.length c3] W fun e w' => e = .returned (.bool true) ∧ Below W.heap.size W w') := by
    intro W hW
    have h := ints_any L L A1 A3 c1 c3 W ((Hr1.out.below hb13).below hW) (Hr3.out.below hW) (by have := HLl.out; omega)
    rw [decide_eq_true rfl] at h
    exact h
  have QW : Hid (∀ W, Below w3.heap.size w3 W → Below w.heap.size w W) := fun W hW => bnext hb6 hW
  have QF : Hid (∀ W, Below w3.heap.size w3 W → FixAt W) := fun W hW => HF.out.below (bnext hb6 hW)
  clear hb13 HP1 Hr1 Hr3
  go_wp2_with fail
  refine wp_region_specs [
    Spec.val (.agg #[.int .i64 pr, .int .i64 sh, .slice Ac m cc]),
    Spec.val ((.int .i64 K0)),
    Spec.val (.agg #[.int .i64 pr, .int .i64 sh, .slice Ac m cc]),
    Spec.val (.agg #[.int .i64 pr, .int .i64 sh, .slice Ac m cc]),
    Spec.val ((.int .i64 K0)),
    Spec.val (.bool true),
    Spec.val (.bool true),
    Spec.val ((.slice A1 L.length c1)),
    Spec.val ((.slice A3 L.length c3)),
    Spec.val (.bool true),
    Spec.val (.bool true),
    Spec.val (.bool true),
    Spec.val ((.int .i64 E)),
    Spec.val ((.int .i64 E)),
    Spec.val (.bool true),
    Spec.val (.bool true),
    Spec.val (.bool true),
    Spec.val (.bool true),
    Spec.val (.bool true),
    Spec.val (.bool true)] w3 (by kernel_rfl) (by repeat (first | exact Below.refl _ _ | assumption | refine below_drewN ?_ _ | refine Below.drew ?_ | refine Below.alloc ?_ (Nat.le_refl _) _ | refine bal ?_ _ | refine bnext ?_ (by assumption))) (n := 51) rfl (by decide +kernel) ⟨?_, ?_, ?_, ?_, ?_, ?_, ?_, ?_, ?_, ?_, ?_, ?_, ?_, ?_, ?_, ?_, ?_, ?_, ?_, ?_, trivial⟩ ?_
  · intro ac wd hJ hfr hdep
    have s2 : ac.tmps.getD 2 undef = .pointer (some ⟨w.heap.size, 0, none⟩) := (hfr 2 (by decide)).trans rfl
    have s2' := slot' s2
    clear hfr hdep
    refine if_wanted rfl (fun Q => op_any (fun K hK => ?_))
    obtain ⟨x0, x1, x2⟩ := QP.out wd hJ
    go_simp
    exact hK _ _ rfl hJ (Below.refl _ _)
  · intro ac wd hJ hfr hdep
    have s32 : ac.tmps.getD 32 undef = .agg #[.int .i64 pr, .int .i64 sh, .slice Ac m cc] := hdep 0 _ 32 (by decide) rfl rfl
    have s32' := slot' s32
    clear hfr hdep
    refine if_wanted rfl (fun Q => op_any (fun K hK => ?_))
    go_simp
    refine (HC.out _ (QW.out _ hJ)).mono ?_
    rintro e w1 ⟨rfl, hb1⟩
    exact hK _ _ rfl (bnext hJ hb1) hb1
  · intro ac wd hJ hfr hdep
    have s2 : ac.tmps.getD 2 undef = .pointer (some ⟨w.heap.size, 0, none⟩) := (hfr 2 (by decide)).trans rfl
    have s2' := slot' s2
    clear hfr hdep
    refine if_wanted rfl (fun Q => op_any (fun K hK => ?_))
    obtain ⟨x0, x1, x2⟩ := QP.out wd hJ
    go_simp
    exact hK _ _ rfl hJ (Below.refl _ _)
  · intro ac wd hJ hfr hdep
    have s34 : ac.tmps.getD 34 undef = .agg #[.int .i64 pr, .int .i64 sh, .slice Ac m cc] := hdep 2 _ 34 (by decide) rfl rfl
    have s34' := slot' s34
    clear hfr hdep
    refine if_wanted rfl (fun Q => op_any (fun K hK => ?_))
    go_simp
    refine (Plain_any pr sh Ac m cc _).mono ?_
    rintro e w1 ⟨rfl, hb1⟩
    exact hK _ _ rfl (bnext hJ hb1) hb1
  · intro ac wd hJ hfr hdep
    have s35 : ac.tmps.getD 35 undef = .agg #[.int .i64 pr, .int .i64 sh, .slice Ac m cc] := hdep 3 _ 35 (by decide) rfl rfl
    have s35' := slot' s35
    clear hfr hdep
    refine if_wanted rfl (fun Q => op_any (fun K hK => ?_))
    go_simp
    refine (HRC.out _ (QW.out _ hJ)).mono ?_
    rintro e w1 ⟨rfl, hb1⟩
    exact hK _ _ rfl (bnext hJ hb1) hb1
  · intro ac wd hJ hfr hdep
    have s33 : ac.tmps.getD 33 undef = (.int .i64 K0) := hdep 1 _ 33 (by decide) rfl rfl
    have s36 : ac.tmps.getD 36 undef = (.int .i64 K0) := hdep 4 _ 36 (by decide) rfl rfl
    have s33' := slot' s33
    have s36' := slot' s36
    clear hfr hdep
    refine if_wanted rfl (fun Q => op_any (fun K hK => ?_))
    go_simp
    exact hK _ _ rfl hJ (Below.refl _ _)
  · intro ac wd hJ hfr hdep
    have s37 : ac.tmps.getD 37 undef = .bool true := hdep 5 _ 37 (by decide) rfl rfl
    have s37' := slot' s37
    clear hfr hdep
    refine if_wanted rfl (fun Q => op_any (fun K hK => ?_))
    go_simp
    exact hK _ _ rfl hJ (Below.refl _ _)
  · intro ac wd hJ hfr hdep
    have sg : ac.tmps.getD 38 undef = .bool true := hdep 6 _ 38 (by decide) rfl rfl
    have s5 : ac.tmps.getD 5 undef = (.slice A1 L.length c1) := (hfr 5 (by decide)).trans rfl
    have s5' := slot' s5
    clear hfr hdep
    refine if_wanted (wanted_yes rfl rfl rfl sg) (fun Q => op_any (fun K hK => ?_))
    go_simp
    exact hK _ _ rfl hJ (Below.refl _ _)
  · intro ac wd hJ hfr hdep
    have sg : ac.tmps.getD 38 undef = .bool true := hdep 6 _ 38 (by decide) rfl rfl
    have s7 : ac.tmps.getD 7 undef = (.slice A3 L.length c3) := (hfr 7 (by decide)).trans rfl
    have s7' := slot' s7
    clear hfr hdep
    refine if_wanted (wanted_yes rfl rfl rfl sg) (fun Q => op_any (fun K hK => ?_))
    go_simp
    exact hK _ _ rfl hJ (Below.refl _ _)
  · intro ac wd hJ hfr hdep
    have sg : ac.tmps.getD 38 undef = .bool true := hdep 6 _ 38 (by decide) rfl rfl
    have s39 : ac.tmps.getD 39 undef = (.slice A1 L.length c1) := hdep 7 _ 39 (by decide) rfl rfl
    have s40 : ac.tmps.getD 40 undef = (.slice A3 L.length c3) := hdep 8 _ 40 (by decide) rfl rfl
    have s39' := slot' s39
    have s40' := slot' s40
    clear hfr hdep
    refine if_wanted (wanted_yes rfl rfl rfl sg) (fun Q => op_any (fun K hK => ?_))
    go_simp
    refine (QI.out _ hJ).mono ?_
    rintro e w1 ⟨rfl, hb1⟩
    exact hK _ _ rfl (bnext hJ hb1) hb1
  · intro ac wd hJ hfr hdep
    have s38 : ac.tmps.getD 38 undef = .bool true := hdep 6 _ 38 (by decide) rfl rfl
    have s41 : ac.tmps.getD 41 undef = .bool true := hdep 9 _ 41 (by decide) rfl rfl
    have s38' := slot' s38
    have s41' := slot' s41
    clear hfr hdep
    refine if_wanted rfl (fun Q => op_any (fun K hK => ?_))
    go_simp
    exact hK _ _ rfl hJ (Below.refl _ _)
  · intro ac wd hJ hfr hdep
    have s42 : ac.tmps.getD 42 undef = .bool true := hdep 10 _ 42 (by decide) rfl rfl
    have s42' := slot' s42
    clear hfr hdep
    refine if_wanted rfl (fun Q => op_any (fun K hK => ?_))
    go_simp
    exact hK _ _ rfl hJ (Below.refl _ _)
  · intro ac wd hJ hfr hdep
    have sg : ac.tmps.getD 43 undef = .bool true := hdep 11 _ 43 (by decide) rfl rfl
    have s6 : ac.tmps.getD 6 undef = (.int .i64 E) := (hfr 6 (by decide)).trans rfl
    have s6' := slot' s6
    clear hfr hdep
    refine if_wanted (wanted_yes rfl rfl rfl sg) (fun Q => op_any (fun K hK => ?_))
    go_simp
    exact hK _ _ rfl hJ (Below.refl _ _)
  · intro ac wd hJ hfr hdep
    have sg : ac.tmps.getD 43 undef = .bool true := hdep 11 _ 43 (by decide) rfl rfl
    have s8 : ac.tmps.getD 8 undef = (.int .i64 E) := (hfr 8 (by decide)).trans rfl
    have s8' := slot' s8
    clear hfr hdep
    refine if_wanted (wanted_yes rfl rfl rfl sg) (fun Q => op_any (fun K hK => ?_))
    go_simp
    exact hK _ _ rfl hJ (Below.refl _ _)
  · intro ac wd hJ hfr hdep
    have sg : ac.tmps.getD 43 undef = .bool true := hdep 11 _ 43 (by decide) rfl rfl
    have s44 : ac.tmps.getD 44 undef = (.int .i64 E) := hdep 12 _ 44 (by decide) rfl rfl
    have s45 : ac.tmps.getD 45 undef = (.int .i64 E) := hdep 13 _ 45 (by decide) rfl rfl
    have s44' := slot' s44
    have s45' := slot' s45
    clear hfr hdep
    refine if_wanted (wanted_yes rfl rfl rfl sg) (fun Q => op_any (fun K hK => ?_))
    go_simp
    exact hK _ _ rfl hJ (Below.refl _ _)
  · intro ac wd hJ hfr hdep
    have s43 : ac.tmps.getD 43 undef = .bool true := hdep 11 _ 43 (by decide) rfl rfl
    have s46 : ac.tmps.getD 46 undef = .bool true := hdep 14 _ 46 (by decide) rfl rfl
    have s43' := slot' s43
    have s46' := slot' s46
    clear hfr hdep
    refine if_wanted rfl (fun Q => op_any (fun K hK => ?_))
    go_simp
    exact hK _ _ rfl hJ (Below.refl _ _)
  · intro ac wd hJ hfr hdep
    have s47 : ac.tmps.getD 47 undef = .bool true := hdep 15 _ 47 (by decide) rfl rfl
    have s47' := slot' s47
    clear hfr hdep
    refine if_wanted rfl (fun Q => op_any (fun K hK => ?_))
    go_simp
    exact hK _ _ rfl hJ (Below.refl _ _)
  · intro ac wd hJ hfr hdep
    have sg : ac.tmps.getD 48 undef = .bool true := hdep 16 _ 48 (by decide) rfl rfl
    clear hfr hdep
    refine if_wanted (wanted_yes rfl rfl rfl sg) (fun Q => op_any (fun K hK => ?_))
    go_simp
    refine (awake_any _ (QF.out _ hJ)).mono ?_
    rintro e w1 ⟨rfl, hb1⟩
    exact hK _ _ rfl (bnext hJ hb1) hb1
  · intro ac wd hJ hfr hdep
    have s48 : ac.tmps.getD 48 undef = .bool true := hdep 16 _ 48 (by decide) rfl rfl
    have s49 : ac.tmps.getD 49 undef = .bool true := hdep 17 _ 49 (by decide) rfl rfl
    have s48' := slot' s48
    have s49' := slot' s49
    clear hfr hdep
    refine if_wanted rfl (fun Q => op_any (fun K hK => ?_))
    go_simp
    exact hK _ _ rfl hJ (Below.refl _ _)
  · intro ac wd hJ hfr hdep
    have s50 : ac.tmps.getD 50 undef = .bool true := hdep 18 _ 50 (by decide) rfl rfl
    have s50' := slot' s50
    clear hfr hdep
    refine if_wanted rfl (fun Q => op_any (fun K hK => ?_))
    go_simp
    exact hK _ _ rfl hJ (Below.refl _ _)
  intro f w' hJ hR
  have e0 : f 0 = .agg #[.int .i64 pr, .int .i64 sh, .slice Ac m cc] := hR 0 (by decide)
  have e1 : f 1 = (.int .i64 K0) := hR 1 (by decide)
  have e2 : f 2 = .agg #[.int .i64 pr, .int .i64 sh, .slice Ac m cc] := hR 2 (by decide)
  have e3 : f 3 = .agg #[.int .i64 pr, .int .i64 sh, .slice Ac m cc] := hR 3 (by decide)
  have e4 : f 4 = (.int .i64 K0) := hR 4 (by decide)
  have e5 : f 5 = .bool true := hR 5 (by decide)
  have e6 : f 6 = .bool true := hR 6 (by decide)
  have e7 : f 7 = (.slice A1 L.length c1) := hR 7 (by decide)
  have e8 : f 8 = (.slice A3 L.length c3) := hR 8 (by decide)
  have e9 : f 9 = .bool true := hR 9 (by decide)
  have e10 : f 10 = .bool true := hR 10 (by decide)
  have e11 : f 11 = .bool true := hR 11 (by decide)
  have e12 : f 12 = (.int .i64 E) := hR 12 (by decide)
  have e13 : f 13 = (.int .i64 E) := hR 13 (by decide)
  have e14 : f 14 = .bool true := hR 14 (by decide)
  have e15 : f 15 = .bool true := hR 15 (by decide)
  have e16 : f 16 = .bool true := hR 16 (by decide)
  have e17 : f 17 = .bool true := hR 17 (by decide)
  have e18 : f 18 = .bool true := hR 18 (by decide)
  have e19 : f 19 = .bool true := hR 19 (by decide)
  clear hR
  simp only [finA, Act.put, List.setIfInBounds_toArray, List.set_cons_succ, List.set_cons_zero, Nat.reduceAdd, e0, e1, e2, e3, e4, e5, e6, e7, e8, e9, e10, e11, e12, e13, e14, e15, e16, e17, e18, e19]
  clear e0 e1 e2 e3 e4 e5 e6 e7 e8 e9 e10 e11 e12 e13 e14 e15 e16 e17 e18 e19
  have hend : Below w.heap.size w w' := bnext hb6 hJ
  go_wp2_with fail
  go_ret
  exact ⟨rfl, hend⟩
end Go.Proofs.YtghnjgemjiekgaaDoor
