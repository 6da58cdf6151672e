/-
  jetsamref08.Check: its walk.
-/
import Derived.Test.YtgohfbfdhdepnaaDoorRTab08
import Derived.Deep.DeepCutAuto
namespace Go.Proofs.YtgohfbfdhdepnaaDoor
open Go.RowKit

set_option maxRecDepth 100000 in
set_option maxHeartbeats 4000000 in
theorem RCheck_bad (h : Hd) (hb : rBad h = true) (w : World) :
    Calls Tryd.prog 8 #[h.val] w fun e w' => e = .returned (.int .i64 13) ∧ Below w.heap.size w w' := by
  have HBk := Lib.hid (fun W => Block_any h.bc W)
  have HRt := Lib.hid (fun W => Rate_any h.rc W)
  have HDp := Lib.hid (fun W => Depth_any h.dc W)
  have Hb0 : Hid (Below w.heap.size w (w.alloc (.cells h.cells 26))) := bal (Below.refl _ _) _
  have HB0 : Hid (HrAt (w.alloc (.cells h.cells 26)) w.heap.size h) := heap_alloc_last w _
  have Hbad : Hid ((decide (ofT refBlk h.bc < 0) || ofT ratL h.rc == -1 || decide (h.m < 0) || decide (h.m > 10) || decide (ofT depL h.dc < 0)) = true) := hb
  clear hb
  generalize ofT refBlk h.bc = xb at *
  generalize ofT ratL h.rc = xr at *
  generalize ofT depL h.dc = xd at *
  obtain ⟨V, bc, rc, m, dc, n, b, r, d⟩ := h
  simp only [Hd.val, Hd.cells] at Hb0 HB0 HBk HRt HDp Hbad ⊢
  by_cases h1 : xb < 0
  · clear Hbad HRt HDp
    go_enter Tryd.func8, Tryd.ntmps8
    go_wp2_with fail
    refine (HBk.out _).mono ?_
    rintro e w1 ⟨rfl, hb1⟩
    have Hb1 := Lib.hid (bnext Hb0.out hb1)
    clear hb1
    go_wp2_with fail
    go_ret
    exact ⟨rfl, Hb1.out⟩
  by_cases h2 : xr = -1
  · have h2' : (xr == -1) = true := by rw [beq_iff_eq]; exact h2
    clear Hbad HDp h2
    go_enter Tryd.func8, Tryd.ntmps8
    go_wp2_with fail
    refine (HBk.out _).mono ?_
    rintro e w1 ⟨rfl, hb1⟩
    have Hb1 := Lib.hid (bnext Hb0.out hb1)
    have HB1 : Hid (HrAt w1 w.heap.size ⟨V, bc, rc, m, dc, n, b, r, d⟩) := HB0.out.below hb1
    clear hb1 Hb0 HB0
    have f2 := HB1.out.c 2 (.int .i64 rc) rfl
    go_wp2_with fail
    refine (HRt.out _).mono ?_
    rintro e w2 ⟨rfl, hb2⟩
    have Hb2 := Lib.hid (bnext Hb1.out hb2)
    have HB2 : Hid (HrAt w2 w.heap.size ⟨V, bc, rc, m, dc, n, b, r, d⟩) := HB1.out.below hb2
    clear hb2 Hb1 HB1 f2
    have f3 := HB2.out.c 3 (.int .i64 m) rfl
    have f4 := HB2.out.c 4 (.int .i64 dc) rfl
    go_wp2_with fail
    go_ret
    exact ⟨rfl, Hb2.out⟩
  have h2' : (xr == -1) = false := by rw [beq_eq_false_iff_ne]; exact h2
  by_cases h3 : m < 0
  · clear Hbad HDp h2
    go_enter Tryd.func8, Tryd.ntmps8
    go_wp2_with fail
    refine (HBk.out _).mono ?_
    rintro e w1 ⟨rfl, hb1⟩
    have Hb1 := Lib.hid (bnext Hb0.out hb1)
    have HB1 : Hid (HrAt w1 w.heap.size ⟨V, bc, rc, m, dc, n, b, r, d⟩) := HB0.out.below hb1
    clear hb1 Hb0 HB0
    have f2 := HB1.out.c 2 (.int .i64 rc) rfl
    go_wp2_with fail
    refine (HRt.out _).mono ?_
    rintro e w2 ⟨rfl, hb2⟩
    have Hb2 := Lib.hid (bnext Hb1.out hb2)
    have HB2 : Hid (HrAt w2 w.heap.size ⟨V, bc, rc, m, dc, n, b, r, d⟩) := HB1.out.below hb2
    clear hb2 Hb1 HB1 f2
    have f3 := HB2.out.c 3 (.int .i64 m) rfl
    have f4 := HB2.out.c 4 (.int .i64 dc) rfl
    go_wp2_with fail
    go_ret
    exact ⟨rfl, Hb2.out⟩
  by_cases h4 : m > 10
  · clear Hbad HDp h2
    go_enter Tryd.func8, Tryd.ntmps8
    go_wp2_with fail
    refine (HBk.out _).mono ?_
    rintro e w1 ⟨rfl, hb1⟩
    have Hb1 := Lib.hid (bnext Hb0.out hb1)
    have HB1 : Hid (HrAt w1 w.heap.size ⟨V, bc, rc, m, dc, n, b, r, d⟩) := HB0.out.below hb1
    clear hb1 Hb0 HB0
    have f2 := HB1.out.c 2 (.int .i64 rc) rfl
    go_wp2_with fail
    refine (HRt.out _).mono ?_
    rintro e w2 ⟨rfl, hb2⟩
    have Hb2 := Lib.hid (bnext Hb1.out hb2)
    have HB2 : Hid (HrAt w2 w.heap.size ⟨V, bc, rc, m, dc, n, b, r, d⟩) := HB1.out.below hb2
    clear hb2 Hb1 HB1 f2
    have f3 := HB2.out.c 3 (.int .i64 m) rfl
    have f4 := HB2.out.c 4 (.int .i64 dc) rfl
    go_wp2_with fail
    go_ret
    exact ⟨rfl, Hb2.out⟩
  by_cases h5 : xd < 0
  · clear Hbad h2
    go_enter Tryd.func8, Tryd.ntmps8
    go_wp2_with fail
    refine (HBk.out _).mono ?_
    rintro e w1 ⟨rfl, hb1⟩
    have Hb1 := Lib.hid (bnext Hb0.out hb1)
    have HB1 : Hid (HrAt w1 w.heap.size ⟨V, bc, rc, m, dc, n, b, r, d⟩) := HB0.out.below hb1
    clear hb1 Hb0 HB0
    have f2 := HB1.out.c 2 (.int .i64 rc) rfl
    go_wp2_with fail
    refine (HRt.out _).mono ?_
    rintro e w2 ⟨rfl, hb2⟩
    have Hb2 := Lib.hid (bnext Hb1.out hb2)
    have HB2 : Hid (HrAt w2 w.heap.size ⟨V, bc, rc, m, dc, n, b, r, d⟩) := HB1.out.below hb2
    clear hb2 Hb1 HB1 f2
    have f3 := HB2.out.c 3 (.int .i64 m) rfl
    have f4 := HB2.out.c 4 (.int .i64 dc) rfl
    go_wp2_with fail
    refine (HDp.out _).mono ?_
    rintro e w3 ⟨rfl, hb3⟩
    have Hb3 := Lib.hid (bnext Hb2.out hb3)
    clear hb3
    go_wp2_with fail
    go_ret
    exact ⟨rfl, Hb3.out⟩
  exfalso
  have := Hbad.out
  simp [h1, h2, h3, h4, h5] at this

set_option maxRecDepth 100000 in
set_option maxHeartbeats 16000000 in
theorem RCheck_any (h : Hd) (hb : rBad h = false) (w : World) :
    Calls Tryd.prog 8 #[h.val] w fun e w' => e = .returned (.int .i64 (rE h)) ∧ Below w.heap.size w w' := by
  have HBk := Lib.hid (fun W => Block_any h.bc W)
  have HRt := Lib.hid (fun W => Rate_any h.rc W)
  have HDp := Lib.hid (fun W => Depth_any h.dc W)
  have HMo := Lib.hid (fun W => rmost_any h.V W)
  have HU := Lib.hid (fun W => Unit_any h.rc W)
  have Hb0 : Hid (Below w.heap.size w (w.alloc (.cells h.cells 26))) := bal (Below.refl _ _) _
  have HB0 : Hid (HrAt (w.alloc (.cells h.cells 26)) w.heap.size h) := heap_alloc_last w _
  have HE : Hid (rE h = if (decide (h.n < 0) || decide (h.n ≥ mostV h.V)) then 10 else if (!rB h.bc h.b || !rR h.rc h.r || h.d != ofT depL h.dc) then 22 else 0) := by show _ = _; rw [rE, if_neg (by rw [hb]; decide)]
  have HRR : Hid (rR h.rc h.r = if ofT ratL h.rc = -2 then decide (0 ≤ h.r ∧ h.r ≤ unU h.rc * topR h.rc ∧ h.r % unU h.rc = 0) else decide (h.r = ofT ratL h.rc)) := rfl
  have HRB : Hid (rB h.bc h.b = if h.bc = 7 then decide (1 ≤ h.b ∧ h.b ≤ 65535) else if h.bc = 6 then decide (1 ≤ h.b ∧ h.b ≤ 256) else decide (h.b = ofT refBlk h.bc)) := rfl
  have hrc2 : ofT ratL h.rc = -2 → h.rc = 12 ∨ h.rc = 13 ∨ h.rc = 14 := rat_two h.rc
  have hbad : (decide (ofT refBlk h.bc < 0) || ofT ratL h.rc == -1 || decide (h.m < 0) || decide (h.m > 10) || decide (ofT depL h.dc < 0)) = false := hb
  simp only [Bool.or_eq_false_iff, decide_eq_false_iff_not] at hbad
  obtain ⟨⟨⟨⟨h1, h2'⟩, h3⟩, h4⟩, h5⟩ := hbad
  clear hb
  generalize rE h = E at *
  generalize ofT refBlk h.bc = xb at *
  generalize ofT ratL h.rc = xr at *
  generalize ofT depL h.dc = xd at *
  generalize mostV h.V = xm at *
  generalize rB h.bc h.b = pb at *
  generalize rR h.rc h.r = pg at *
  obtain ⟨V, bc, rc, m, dc, n, b, r, d⟩ := h
  simp only [Hd.val, Hd.cells] at Hb0 HB0 HBk HRt HDp HMo HU HE HRR HRB h3 h4 hrc2 ⊢
  go_enter Tryd.func8, Tryd.ntmps8
  go_wp2_with fail
  refine (HBk.out _).mono ?_
  rintro e w1 ⟨rfl, hb1⟩
  have Hb1 := Lib.hid (bnext Hb0.out hb1)
  have HB1 : Hid (HrAt w1 w.heap.size ⟨V, bc, rc, m, dc, n, b, r, d⟩) := HB0.out.below hb1
  clear hb1 Hb0 HB0
  have f2 := HB1.out.c 2 (.int .i64 rc) rfl
  go_wp2_with fail
  refine (HRt.out _).mono ?_
  rintro e w2 ⟨rfl, hb2⟩
  have Hb2 := Lib.hid (bnext Hb1.out hb2)
  have HB2 : Hid (HrAt w2 w.heap.size ⟨V, bc, rc, m, dc, n, b, r, d⟩) := HB1.out.below hb2
  clear hb2 Hb1 HB1 f2
  have f3 := HB2.out.c 3 (.int .i64 m) rfl
  have f4 := HB2.out.c 4 (.int .i64 dc) rfl
  go_wp2_with fail
  refine (HDp.out _).mono ?_
  rintro e w3 ⟨rfl, hb3⟩
  have Hb3 := Lib.hid (bnext Hb2.out hb3)
  have HB3 : Hid (HrAt w3 w.heap.size ⟨V, bc, rc, m, dc, n, b, r, d⟩) := HB2.out.below hb3
  clear hb3 Hb2 HB2
  have f5 := HB3.out.c 5 (.int .i64 n) rfl
  have f0 := HB3.out.c 0 (.bool V) rfl
  by_cases g1 : n < 0
  · have g1' : decide (n < 0) = true := decide_eq_true g1
    have hE : E = 10 := by rw [HE.out, g1']; rfl
    subst hE
    clear HE HRR HRB hrc2 g1
    go_wp2_with fail
    go_quiet (fail)
    go_wp2_with fail
    go_ret
    exact ⟨rfl, below_drewN Hb3.out _⟩
  have g1' : decide (n < 0) = false := decide_eq_false g1
  by_cases g2 : n ≥ xm
  · have g2' : decide (n ≥ xm) = true := decide_eq_true g2
    have hE : E = 10 := by rw [HE.out, g1', g2']; rfl
    subst hE
    clear HE HRR HRB hrc2 g1
    go_wp2_with fail
    go_quiet ((go_at_call_of 22 (Value.bool V); exact Calls.quiet_of_same (HMo.out _)))
    go_wp2_with fail
    go_ret
    exact ⟨rfl, below_drewN Hb3.out _⟩
  have g2' : decide (n ≥ xm) = false := decide_eq_false g2
  have hE : Hid (E = if (!pb || !pg || d != xd) then 22 else 0) := by show _ = _; rw [HE.out, g1', g2']; rfl
  clear HE g1 g2
  go_wp2_with fail
  go_quiet ((go_at_call_of 22 (Value.bool V); exact Calls.quiet_of_same (HMo.out _)))
  obtain ⟨B0, hB0⟩ : ∃ B0, w.heap.size = B0 := ⟨_, rfl⟩
  have HB : Hid (HrAt (w3.drewN nq) B0 ⟨V, bc, rc, m, dc, n, b, r, d⟩) := by rw [← hB0]; exact HB3.out.below (below_drewN (Below.refl _ _) _)
  have Hb4 : Hid (Below w.heap.size w (w3.drewN nq)) := below_drewN Hb3.out _
  rw [hB0]
  clear f5 f0 HB3 Hb3 HMo h1 h2' h3 h4 h5
  generalize w3.drewN nq = w1 at *
  go_wp2_with fail
  refine wp_region_specs [
    Spec.val (.pointer (some ⟨B0, 6, none⟩)),
    Spec.val (.int .i64 b),
    Spec.val (.pointer (some ⟨B0, 1, none⟩)),
    Spec.val (.int .i64 bc),
    Spec.val (.int .i64 xb),
    Spec.val (.bool (b == xb)),
    Spec.val (.bool (b == xb))] w1 (by kernel_rfl) (by repeat (first | exact Below.refl _ _ | assumption | refine below_drewN ?_ _ | refine Below.drew ?_ | refine Below.alloc ?_ (Nat.le_refl _) _ | refine bal ?_ _ | refine bnext ?_ (by assumption))) (n := 120) rfl (by decide +kernel) ⟨?_, ?_, ?_, ?_, ?_, ?_, ?_, trivial⟩ ?_
  · intro ac wd hJ hfr hdep
    have s1 : ac.tmps.getD 1 undef = .pointer (some ⟨B0, 0, none⟩) := (hfr 1 (by decide)).trans rfl
    have s1' := slot' s1
    clear hfr hdep
    refine if_wanted rfl (fun Q => op_any (fun K hK => ?_))
    go_simp
    exact hK _ _ rfl hJ (Below.refl _ _)
  · intro ac wd hJ hfr hdep
    have s44 : ac.tmps.getD 44 undef = .pointer (some ⟨B0, 6, none⟩) := hdep 0 _ 44 (by decide) rfl rfl
    have s44' := slot' s44
    clear hfr hdep
    refine if_wanted rfl (fun Q => op_any (fun K hK => ?_))
    have hq := (HB.out.below hJ).c 6 _ rfl
    go_simp
    exact hK _ _ rfl hJ (Below.refl _ _)
  · intro ac wd hJ hfr hdep
    have s1 : ac.tmps.getD 1 undef = .pointer (some ⟨B0, 0, none⟩) := (hfr 1 (by decide)).trans rfl
    have s1' := slot' s1
    clear hfr hdep
    refine if_wanted rfl (fun Q => op_any (fun K hK => ?_))
    go_simp
    exact hK _ _ rfl hJ (Below.refl _ _)
  · intro ac wd hJ hfr hdep
    have s46 : ac.tmps.getD 46 undef = .pointer (some ⟨B0, 1, none⟩) := hdep 2 _ 46 (by decide) rfl rfl
    have s46' := slot' s46
    clear hfr hdep
    refine if_wanted rfl (fun Q => op_any (fun K hK => ?_))
    have hq := (HB.out.below hJ).c 1 _ rfl
    go_simp
    exact hK _ _ rfl hJ (Below.refl _ _)
  · intro ac wd hJ hfr hdep
    have s47 : ac.tmps.getD 47 undef = .int .i64 bc := hdep 3 _ 47 (by decide) rfl rfl
    have s47' := slot' s47
    clear hfr hdep
    refine if_wanted rfl (fun Q => op_any (fun K hK => ?_))
    go_simp
    refine (HBk.out _).mono ?_
    rintro e wz ⟨rfl, hbz⟩
    exact hK _ _ rfl (bnext hJ hbz) hbz
  · intro ac wd hJ hfr hdep
    have s45 : ac.tmps.getD 45 undef = .int .i64 b := hdep 1 _ 45 (by decide) rfl rfl
    have s48 : ac.tmps.getD 48 undef = .int .i64 xb := hdep 4 _ 48 (by decide) rfl rfl
    have s45' := slot' s45
    have s48' := slot' s48
    clear hfr hdep
    refine if_wanted rfl (fun Q => op_any (fun K hK => ?_))
    go_simp
    exact hK _ _ rfl hJ (Below.refl _ _)
  · intro ac wd hJ hfr hdep
    have s49 : ac.tmps.getD 49 undef = .bool (b == xb) := hdep 5 _ 49 (by decide) rfl rfl
    have s49' := slot' s49
    clear hfr hdep
    refine if_wanted rfl (fun Q => op_any (fun K hK => ?_))
    go_simp
    exact hK _ _ rfl hJ (Below.refl _ _)
  intro f5 w2 hJ2 hR
  have e0 : f5 0 = .pointer (some ⟨B0, 6, none⟩) := hR 0 (by decide)
  have e1 : f5 1 = .int .i64 b := hR 1 (by decide)
  have e2 : f5 2 = .pointer (some ⟨B0, 1, none⟩) := hR 2 (by decide)
  have e3 : f5 3 = .int .i64 bc := hR 3 (by decide)
  have e4 : f5 4 = .int .i64 xb := hR 4 (by decide)
  have e5 : f5 5 = .bool (b == xb) := hR 5 (by decide)
  have e6 : f5 6 = .bool (b == xb) := hR 6 (by decide)
  clear hR
  simp only [finA, Act.put, List.setIfInBounds_toArray, List.set_cons_succ, List.set_cons_zero, Nat.reduceAdd, e0, e1, e2, e3, e4, e5, e6]
  clear e0 e1 e2 e3 e4 e5 e6
  have HB2 : Hid (HrAt w2 B0 ⟨V, bc, rc, m, dc, n, b, r, d⟩) := HB.out.below hJ2
  have Hb5 := Lib.hid (bnext Hb4.out hJ2)
  clear HB Hb4 hJ2 HBk
  have f1 := HB2.out.c 1 (.int .i64 bc) rfl
  have f6 := HB2.out.c 6 (.int .i64 b) rfl
  go_upto_if 52 with fail
  obtain ⟨q6, hq6⟩ : ∃ q6 : Bool, (if bc = 6 then decide (1 ≤ b ∧ b ≤ 256) else decide (b = xb)) = q6 := ⟨_, rfl⟩
  rw [hq6] at HRB
  have Hq6 := Lib.hid hq6
  clear hq6
  go_cut [3] (fun v wx => v = .bool q6 ∧ w2 = wx)
  case first =>
    by_cases c6 : bc = 6
    · subst c6
      have HP : Hid (q6 = decide (1 ≤ b ∧ b ≤ 256)) := Hq6.out.symm
      clear HRB Hq6
      by_cases c1 : 1 ≤ b
      · have c1' : decide (b ≥ 1) = true := decide_eq_true c1
        by_cases c2 : b ≤ 256
        · have c2' : decide (b ≤ 256) = true := decide_eq_true c2
          have e : Hid (q6 = true) := HP.out.trans (decide_eq_true ⟨c1, c2⟩)
          clear c2 HP
          go_wp2_with fail
          go_meet
          exact ⟨by rw [e.out], rfl⟩
        · have c2' : decide (b ≤ 256) = false := decide_eq_false c2
          have e : Hid (q6 = false) := HP.out.trans (decide_eq_false (fun h => c2 h.2))
          clear c2 HP
          go_wp2_with fail
          go_meet
          exact ⟨by rw [e.out], rfl⟩
      · have c1' : decide (b ≥ 1) = false := decide_eq_false c1
        have e : Hid (q6 = false) := HP.out.trans (decide_eq_false (fun h => c1 h.1))
        clear HP
        go_wp2_with fail
        go_meet
        exact ⟨by rw [e.out], rfl⟩
    · have c6' : (bc == 6) = false := by rw [beq_eq_false_iff_ne]; exact c6
      have e : Hid (q6 = decide (b = xb)) := by show _ = _; rw [← Hq6.out, if_neg c6]
      clear HRB Hq6
      go_wp2_with fail
      go_meet
      exact ⟨by rw [e.out]; rfl, rfl⟩
  case rest =>
    obtain ⟨rfl, rfl⟩ := hcut
    clear Hq6
    go_upto_if 63 with fail
    go_cut [3] (fun v wx => v = .bool pb ∧ w2 = wx)
    case first =>
      by_cases c7 : bc = 7
      · subst c7
        have HP : Hid (pb = decide (1 ≤ b ∧ b ≤ 65535)) := HRB.out
        clear HRB
        by_cases c1 : 1 ≤ b
        · have c1' : decide (b ≥ 1) = true := decide_eq_true c1
          by_cases c2 : b ≤ 65535
          · have c2' : decide (b ≤ 65535) = true := decide_eq_true c2
            have e : Hid (pb = true) := HP.out.trans (decide_eq_true ⟨c1, c2⟩)
            clear c2 HP
            go_wp2_with fail
            go_meet
            exact ⟨by rw [e.out], rfl⟩
          · have c2' : decide (b ≤ 65535) = false := decide_eq_false c2
            have e : Hid (pb = false) := HP.out.trans (decide_eq_false (fun h => c2 h.2))
            clear c2 HP
            go_wp2_with fail
            go_meet
            exact ⟨by rw [e.out], rfl⟩
        · have c1' : decide (b ≥ 1) = false := decide_eq_false c1
          have e : Hid (pb = false) := HP.out.trans (decide_eq_false (fun h => c1 h.1))
          clear HP
          go_wp2_with fail
          go_meet
          exact ⟨by rw [e.out], rfl⟩
      · have c7' : (bc == 7) = false := by rw [beq_eq_false_iff_ne]; exact c7
        have e : Hid (pb = q6) := by show _ = _; rw [HRB.out, if_neg c7]
        go_wp2_with fail
        go_meet
        exact ⟨by rw [e.out], rfl⟩
    case rest =>
      obtain ⟨rfl, rfl⟩ := hcut
      clear HRB f1 f6
      obtain ⟨w1, hw1⟩ : ∃ w1, w2 = w1 := ⟨_, rfl⟩
      have HB : Hid (HrAt w1 B0 ⟨V, bc, rc, m, dc, n, b, r, d⟩) := by rw [← hw1]; exact HB2.out
      have Hb6 : Hid (Below w.heap.size w w1) := by rw [← hw1]; exact Hb5.out
      rw [hw1]
      clear hw1 HB2 Hb5
      go_upto_region 10 with fail
      refine wp_region_specs [
        Spec.val (.pointer (some ⟨B0, 7, none⟩)),
        Spec.val (.int .i64 r),
        Spec.val (.pointer (some ⟨B0, 2, none⟩)),
        Spec.val (.int .i64 rc),
        Spec.val (.int .i64 xr),
        Spec.val (.bool (r == xr)),
        Spec.val (.bool (r == xr))] w1 (by kernel_rfl) (by repeat (first | exact Below.refl _ _ | assumption | refine below_drewN ?_ _ | refine Below.drew ?_ | refine Below.alloc ?_ (Nat.le_refl _) _ | refine bal ?_ _ | refine bnext ?_ (by assumption))) (n := 120) rfl (by decide +kernel) ⟨?_, ?_, ?_, ?_, ?_, ?_, ?_, trivial⟩ ?_
      · intro ac wd hJ hfr hdep
        have s1 : ac.tmps.getD 1 undef = .pointer (some ⟨B0, 0, none⟩) := (hfr 1 (by decide)).trans rfl
        have s1' := slot' s1
        clear hfr hdep
        refine if_wanted rfl (fun Q => op_any (fun K hK => ?_))
        go_simp
        exact hK _ _ rfl hJ (Below.refl _ _)
      · intro ac wd hJ hfr hdep
        have s72 : ac.tmps.getD 72 undef = .pointer (some ⟨B0, 7, none⟩) := hdep 0 _ 72 (by decide) rfl rfl
        have s72' := slot' s72
        clear hfr hdep
        refine if_wanted rfl (fun Q => op_any (fun K hK => ?_))
        have hq := (HB.out.below hJ).c 7 _ rfl
        go_simp
        exact hK _ _ rfl hJ (Below.refl _ _)
      · intro ac wd hJ hfr hdep
        have s1 : ac.tmps.getD 1 undef = .pointer (some ⟨B0, 0, none⟩) := (hfr 1 (by decide)).trans rfl
        have s1' := slot' s1
        clear hfr hdep
        refine if_wanted rfl (fun Q => op_any (fun K hK => ?_))
        go_simp
        exact hK _ _ rfl hJ (Below.refl _ _)
      · intro ac wd hJ hfr hdep
        have s74 : ac.tmps.getD 74 undef = .pointer (some ⟨B0, 2, none⟩) := hdep 2 _ 74 (by decide) rfl rfl
        have s74' := slot' s74
        clear hfr hdep
        refine if_wanted rfl (fun Q => op_any (fun K hK => ?_))
        have hq := (HB.out.below hJ).c 2 _ rfl
        go_simp
        exact hK _ _ rfl hJ (Below.refl _ _)
      · intro ac wd hJ hfr hdep
        have s75 : ac.tmps.getD 75 undef = .int .i64 rc := hdep 3 _ 75 (by decide) rfl rfl
        have s75' := slot' s75
        clear hfr hdep
        refine if_wanted rfl (fun Q => op_any (fun K hK => ?_))
        go_simp
        refine (HRt.out _).mono ?_
        rintro e wz ⟨rfl, hbz⟩
        exact hK _ _ rfl (bnext hJ hbz) hbz
      · intro ac wd hJ hfr hdep
        have s73 : ac.tmps.getD 73 undef = .int .i64 r := hdep 1 _ 73 (by decide) rfl rfl
        have s76 : ac.tmps.getD 76 undef = .int .i64 xr := hdep 4 _ 76 (by decide) rfl rfl
        have s73' := slot' s73
        have s76' := slot' s76
        clear hfr hdep
        refine if_wanted rfl (fun Q => op_any (fun K hK => ?_))
        go_simp
        exact hK _ _ rfl hJ (Below.refl _ _)
      · intro ac wd hJ hfr hdep
        have s77 : ac.tmps.getD 77 undef = .bool (r == xr) := hdep 5 _ 77 (by decide) rfl rfl
        have s77' := slot' s77
        clear hfr hdep
        refine if_wanted rfl (fun Q => op_any (fun K hK => ?_))
        go_simp
        exact hK _ _ rfl hJ (Below.refl _ _)
      intro f10 w3 hJ3 hR
      have e0 : f10 0 = .pointer (some ⟨B0, 7, none⟩) := hR 0 (by decide)
      have e1 : f10 1 = .int .i64 r := hR 1 (by decide)
      have e2 : f10 2 = .pointer (some ⟨B0, 2, none⟩) := hR 2 (by decide)
      have e3 : f10 3 = .int .i64 rc := hR 3 (by decide)
      have e4 : f10 4 = .int .i64 xr := hR 4 (by decide)
      have e5 : f10 5 = .bool (r == xr) := hR 5 (by decide)
      have e6 : f10 6 = .bool (r == xr) := hR 6 (by decide)
      clear hR
      simp only [finA, Act.put, List.setIfInBounds_toArray, List.set_cons_succ, List.set_cons_zero, Nat.reduceAdd, e0, e1, e2, e3, e4, e5, e6]
      clear e0 e1 e2 e3 e4 e5 e6
      have HB3 : Hid (HrAt w3 B0 ⟨V, bc, rc, m, dc, n, b, r, d⟩) := HB.out.below hJ3
      have Hb7 := Lib.hid (bnext Hb6.out hJ3)
      clear HB Hb6 hJ3
      have f2 := HB3.out.c 2 (.int .i64 rc) rfl
      go_upto_if 81 with fail
      refine (HRt.out _).mono ?_
      rintro e w4 ⟨rfl, hb4⟩
      have HB4 : Hid (HrAt w4 B0 ⟨V, bc, rc, m, dc, n, b, r, d⟩) := HB3.out.below hb4
      have Hb8 := Lib.hid (bnext Hb7.out hb4)
      clear HB3 Hb7 hb4 f2 HRt
      have f2 := HB4.out.c 2 (.int .i64 rc) rfl
      have f7 := HB4.out.c 7 (.int .i64 r) rfl
      go_upto_if 81 with fail
      go_cut [4, 5, 6] (fun v _ _ wx => v = .bool pg ∧ w4 = wx)
      case first =>
        by_cases hx : xr = -2
        · have hP := HRR.out
          rw [if_pos hx] at hP
          have hcs := hrc2 hx
          clear HRR hrc2
          subst hx
          rcases hcs with rfl | rfl | rfl
          · have HP : Hid (pg = decide (0 ≤ r ∧ r ≤ 255000 ∧ r % 1000 = 0)) := hP
            clear hP
            have e1 : unU 12 = 1000 := rfl
            have HU2 := Lib.hid (fun W => Unit_any 12 W)
            rw [e1] at HU2
            by_cases c1 : 0 ≤ r
            · have c1' : decide (r ≥ 0) = true := decide_eq_true c1
              have ge : r.tmod 1000 = r % 1000 := Int.tmod_eq_emod_of_nonneg c1
              by_cases c2 : r ≤ 255000
              · have c2' : decide (r ≤ 255000) = true := decide_eq_true c2
                by_cases c3 : r % 1000 = 0
                · have e : Hid (pg = true) := HP.out.trans (decide_eq_true ⟨c1, c2, c3⟩)
                  clear HP e1 c2
                  go_wp2_with fail
                  refine (HU2.out _).mono ?_
                  rintro e w5 ⟨rfl, rfl⟩
                  go_wp2_with fail
                  go_meet
                  exact ⟨by rw [e.out], rfl⟩
                · have e : Hid (pg = false) := HP.out.trans (decide_eq_false (fun h => c3 h.2.2))
                  have c3' : (r % 1000 == 0) = false := by rw [beq_eq_false_iff_ne]; exact c3
                  clear HP e1 c2
                  go_wp2_with fail
                  refine (HU2.out _).mono ?_
                  rintro e w5 ⟨rfl, rfl⟩
                  go_wp2_with fail
                  go_meet
                  exact ⟨by rw [e.out], rfl⟩
              · have c2' : decide (r ≤ 255000) = false := decide_eq_false c2
                have e : Hid (pg = false) := HP.out.trans (decide_eq_false (fun h => c2 h.2.1))
                clear HP e1 c2
                go_wp2_with fail
                refine (HU2.out _).mono ?_
                rintro e w5 ⟨rfl, rfl⟩
                go_wp2_with fail
                go_meet
                exact ⟨by rw [e.out], rfl⟩
            · have c1' : decide (r ≥ 0) = false := decide_eq_false c1
              have e : Hid (pg = false) := HP.out.trans (decide_eq_false (fun h => c1 h.1))
              clear HP e1
              go_wp2_with fail
              refine (HU2.out _).mono ?_
              rintro e w5 ⟨rfl, rfl⟩
              go_wp2_with fail
              go_meet
              exact ⟨by rw [e.out], rfl⟩
          · have HP : Hid (pg = decide (0 ≤ r ∧ r ≤ 65535 ∧ r % 1 = 0)) := hP
            clear hP
            have e1 : unU 13 = 1 := rfl
            have HU2 := Lib.hid (fun W => Unit_any 13 W)
            rw [e1] at HU2
            by_cases c1 : 0 ≤ r
            · have c1' : decide (r ≥ 0) = true := decide_eq_true c1
              have ge : r.tmod 1 = r % 1 := Int.tmod_eq_emod_of_nonneg c1
              by_cases c2 : r ≤ 65535
              · have c2' : decide (r ≤ 65535) = true := decide_eq_true c2
                have c3 : r % 1 = 0 := by omega
                · have e : Hid (pg = true) := HP.out.trans (decide_eq_true ⟨c1, c2, c3⟩)
                  clear HP e1 c2
                  go_wp2_with fail
                  refine (HU2.out _).mono ?_
                  rintro e w5 ⟨rfl, rfl⟩
                  go_wp2_with fail
                  go_meet
                  exact ⟨by rw [e.out], rfl⟩
              · have c2' : decide (r ≤ 65535) = false := decide_eq_false c2
                have e : Hid (pg = false) := HP.out.trans (decide_eq_false (fun h => c2 h.2.1))
                clear HP e1 c2
                go_wp2_with fail
                refine (HU2.out _).mono ?_
                rintro e w5 ⟨rfl, rfl⟩
                go_wp2_with fail
                go_meet
                exact ⟨by rw [e.out], rfl⟩
            · have c1' : decide (r ≥ 0) = false := decide_eq_false c1
              have e : Hid (pg = false) := HP.out.trans (decide_eq_false (fun h => c1 h.1))
              clear HP e1
              go_wp2_with fail
              refine (HU2.out _).mono ?_
              rintro e w5 ⟨rfl, rfl⟩
              go_wp2_with fail
              go_meet
              exact ⟨by rw [e.out], rfl⟩
          · have HP : Hid (pg = decide (0 ≤ r ∧ r ≤ 655350 ∧ r % 10 = 0)) := hP
            clear hP
            have e1 : unU 14 = 10 := rfl
            have HU2 := Lib.hid (fun W => Unit_any 14 W)
            rw [e1] at HU2
            by_cases c1 : 0 ≤ r
            · have c1' : decide (r ≥ 0) = true := decide_eq_true c1
              have ge : r.tmod 10 = r % 10 := Int.tmod_eq_emod_of_nonneg c1
              by_cases c2 : r ≤ 655350
              · have c2' : decide (r ≤ 655350) = true := decide_eq_true c2
                by_cases c3 : r % 10 = 0
                · have e : Hid (pg = true) := HP.out.trans (decide_eq_true ⟨c1, c2, c3⟩)
                  clear HP e1 c2
                  go_wp2_with fail
                  refine (HU2.out _).mono ?_
                  rintro e w5 ⟨rfl, rfl⟩
                  go_wp2_with fail
                  go_meet
                  exact ⟨by rw [e.out], rfl⟩
                · have e : Hid (pg = false) := HP.out.trans (decide_eq_false (fun h => c3 h.2.2))
                  have c3' : (r % 10 == 0) = false := by rw [beq_eq_false_iff_ne]; exact c3
                  clear HP e1 c2
                  go_wp2_with fail
                  refine (HU2.out _).mono ?_
                  rintro e w5 ⟨rfl, rfl⟩
                  go_wp2_with fail
                  go_meet
                  exact ⟨by rw [e.out], rfl⟩
              · have c2' : decide (r ≤ 655350) = false := decide_eq_false c2
                have e : Hid (pg = false) := HP.out.trans (decide_eq_false (fun h => c2 h.2.1))
                clear HP e1 c2
                go_wp2_with fail
                refine (HU2.out _).mono ?_
                rintro e w5 ⟨rfl, rfl⟩
                go_wp2_with fail
                go_meet
                exact ⟨by rw [e.out], rfl⟩
            · have c1' : decide (r ≥ 0) = false := decide_eq_false c1
              have e : Hid (pg = false) := HP.out.trans (decide_eq_false (fun h => c1 h.1))
              clear HP e1
              go_wp2_with fail
              refine (HU2.out _).mono ?_
              rintro e w5 ⟨rfl, rfl⟩
              go_wp2_with fail
              go_meet
              exact ⟨by rw [e.out], rfl⟩
        · have hx' : (xr == -2) = false := by rw [beq_eq_false_iff_ne]; exact hx
          have e : Hid (pg = decide (r = xr)) := by show _ = _; rw [HRR.out, if_neg hx]
          clear HRR hrc2 hx
          go_wp2_with fail
          go_meet
          exact ⟨by rw [e.out]; rfl, rfl⟩
      case rest =>
        obtain ⟨rfl, rfl⟩ := hcut
        clear HRR hrc2 f2 f7 HU
        obtain ⟨w1, hw1⟩ : ∃ w1, w4 = w1 := ⟨_, rfl⟩
        have HB : Hid (HrAt w1 B0 ⟨V, bc, rc, m, dc, n, b, r, d⟩) := by rw [← hw1]; exact HB4.out
        have Hb9 : Hid (Below w.heap.size w w1) := by rw [← hw1]; exact Hb8.out
        rw [hw1]
        clear hw1 HB4 Hb8
        go_upto_region 17 with fail
        cases pb
        · have HX : Hid (E = 22) := hE.out
          clear hE
          refine wp_region_specs [
            Spec.val (.bool false),
            Spec.val (.bool true),
            Spec.val (.bool true),
            Spec.val (undef),
            Spec.val (undef),
            Spec.val ((Value.bool true)),
            Spec.val ((Value.bool true)),
            Spec.val (undef),
            Spec.val (undef),
            Spec.val (undef),
            Spec.val (undef),
            Spec.val (undef),
            Spec.val (undef),
            Spec.val ((Value.bool true))] w1 (by kernel_rfl) (by repeat (first | exact Below.refl _ _ | assumption | refine below_drewN ?_ _ | refine Below.drew ?_ | refine Below.alloc ?_ (Nat.le_refl _) _ | refine bal ?_ _ | refine bnext ?_ (by assumption))) (n := 120) rfl (by decide +kernel) ⟨?_, ?_, ?_, ?_, ?_, ?_, ?_, ?_, ?_, ?_, ?_, ?_, ?_, ?_, trivial⟩ ?_
          · intro ac wd hJ hfr hdep
            have s3 : ac.tmps.getD 3 undef = .bool false := (hfr 3 (by decide)).trans rfl
            have s3' := slot' s3
            clear hfr hdep
            refine if_wanted rfl (fun Q => op_any (fun K hK => ?_))
            go_simp
            exact hK _ _ rfl hJ (Below.refl _ _)
          · intro ac wd hJ hfr hdep
            have s106 : ac.tmps.getD 106 undef = .bool false := hdep 0 _ 106 (by decide) rfl rfl
            have s106' := slot' s106
            clear hfr hdep
            refine if_wanted rfl (fun Q => op_any (fun K hK => ?_))
            go_simp
            exact hK _ _ rfl hJ (Below.refl _ _)
          · intro ac wd hJ hfr hdep
            have s107 : ac.tmps.getD 107 undef = .bool true := hdep 1 _ 107 (by decide) rfl rfl
            have s107' := slot' s107
            clear hfr hdep
            refine if_wanted rfl (fun Q => op_any (fun K hK => ?_))
            go_simp
            exact hK _ _ rfl hJ (Below.refl _ _)
          · intro ac wd hJ hfr hdep
            have sg : ac.tmps.getD 108 undef = .bool true := hdep 2 _ 108 (by decide) rfl rfl
            exact if_unwanted (wanted_no rfl rfl rfl sg (by decide)) rfl
          · intro ac wd hJ hfr hdep
            have sg : ac.tmps.getD 108 undef = .bool true := hdep 2 _ 108 (by decide) rfl rfl
            exact if_unwanted (wanted_no rfl rfl rfl sg (by decide)) rfl
          · intro ac wd hJ hfr hdep
            have s108 : ac.tmps.getD 108 undef = .bool true := hdep 2 _ 108 (by decide) rfl rfl
            have s110 : ac.tmps.getD 110 undef = undef := hdep 4 _ 110 (by decide) rfl rfl
            have s108' := slot' s108
            have s110' := slot' s110
            clear hfr hdep
            refine if_wanted rfl (fun Q => op_any (fun K hK => ?_))
            go_simp
            exact hK _ _ rfl hJ (Below.refl _ _)
          · intro ac wd hJ hfr hdep
            have s111 : ac.tmps.getD 111 undef = (Value.bool true) := hdep 5 _ 111 (by decide) rfl rfl
            have s111' := slot' s111
            clear hfr hdep
            refine if_wanted rfl (fun Q => op_any (fun K hK => ?_))
            go_simp
            exact hK _ _ rfl hJ (Below.refl _ _)
          · intro ac wd hJ hfr hdep
            have sg : ac.tmps.getD 112 undef = .bool true := hdep 6 _ 112 (by decide) rfl rfl
            exact if_unwanted (wanted_no rfl rfl rfl sg (by decide)) rfl
          · intro ac wd hJ hfr hdep
            have sg : ac.tmps.getD 112 undef = .bool true := hdep 6 _ 112 (by decide) rfl rfl
            exact if_unwanted (wanted_no rfl rfl rfl sg (by decide)) rfl
          · intro ac wd hJ hfr hdep
            have sg : ac.tmps.getD 112 undef = .bool true := hdep 6 _ 112 (by decide) rfl rfl
            exact if_unwanted (wanted_no rfl rfl rfl sg (by decide)) rfl
          · intro ac wd hJ hfr hdep
            have sg : ac.tmps.getD 112 undef = .bool true := hdep 6 _ 112 (by decide) rfl rfl
            exact if_unwanted (wanted_no rfl rfl rfl sg (by decide)) rfl
          · intro ac wd hJ hfr hdep
            have sg : ac.tmps.getD 112 undef = .bool true := hdep 6 _ 112 (by decide) rfl rfl
            exact if_unwanted (wanted_no rfl rfl rfl sg (by decide)) rfl
          · intro ac wd hJ hfr hdep
            have sg : ac.tmps.getD 112 undef = .bool true := hdep 6 _ 112 (by decide) rfl rfl
            exact if_unwanted (wanted_no rfl rfl rfl sg (by decide)) rfl
          · intro ac wd hJ hfr hdep
            have s112 : ac.tmps.getD 112 undef = (Value.bool true) := hdep 6 _ 112 (by decide) rfl rfl
            have s118 : ac.tmps.getD 118 undef = undef := hdep 12 _ 118 (by decide) rfl rfl
            have s112' := slot' s112
            have s118' := slot' s118
            clear hfr hdep
            refine if_wanted rfl (fun Q => op_any (fun K hK => ?_))
            go_simp
            exact hK _ _ rfl hJ (Below.refl _ _)
          intro f17 w4 hJ4 hR
          have e0 : f17 0 = .bool false := hR 0 (by decide)
          have e1 : f17 1 = .bool true := hR 1 (by decide)
          have e2 : f17 2 = .bool true := hR 2 (by decide)
          have e3 : f17 3 = undef := hR 3 (by decide)
          have e4 : f17 4 = undef := hR 4 (by decide)
          have e5 : f17 5 = (Value.bool true) := hR 5 (by decide)
          have e6 : f17 6 = (Value.bool true) := hR 6 (by decide)
          have e7 : f17 7 = undef := hR 7 (by decide)
          have e8 : f17 8 = undef := hR 8 (by decide)
          have e9 : f17 9 = undef := hR 9 (by decide)
          have e10 : f17 10 = undef := hR 10 (by decide)
          have e11 : f17 11 = undef := hR 11 (by decide)
          have e12 : f17 12 = undef := hR 12 (by decide)
          have e13 : f17 13 = (Value.bool true) := hR 13 (by decide)
          clear hR
          simp only [finA, Act.put, List.setIfInBounds_toArray, List.set_cons_succ, List.set_cons_zero, Nat.reduceAdd, e0, e1, e2, e3, e4, e5, e6, e7, e8, e9, e10, e11, e12, e13]
          clear e0 e1 e2 e3 e4 e5 e6 e7 e8 e9 e10 e11 e12 e13
          have Hb10 := Lib.hid (bnext Hb9.out hJ4)
          clear hJ4
          go_wp2_with fail
          go_ret
          exact ⟨by rw [HX.out]; rfl, Hb10.out⟩
        · cases pg
          · have HX : Hid (E = 22) := hE.out
            clear hE
            refine wp_region_specs [
              Spec.val (.bool true),
              Spec.val (.bool false),
              Spec.val (.bool false),
              Spec.val (.bool false),
              Spec.val (.bool true),
              Spec.val (.bool true),
              Spec.val (.bool true),
              Spec.val (undef),
              Spec.val (undef),
              Spec.val (undef),
              Spec.val (undef),
              Spec.val (undef),
              Spec.val (undef),
              Spec.val ((Value.bool true))] w1 (by kernel_rfl) (by repeat (first | exact Below.refl _ _ | assumption | refine below_drewN ?_ _ | refine Below.drew ?_ | refine Below.alloc ?_ (Nat.le_refl _) _ | refine bal ?_ _ | refine bnext ?_ (by assumption))) (n := 120) rfl (by decide +kernel) ⟨?_, ?_, ?_, ?_, ?_, ?_, ?_, ?_, ?_, ?_, ?_, ?_, ?_, ?_, trivial⟩ ?_
            · intro ac wd hJ hfr hdep
              have s3 : ac.tmps.getD 3 undef = .bool true := (hfr 3 (by decide)).trans rfl
              have s3' := slot' s3
              clear hfr hdep
              refine if_wanted rfl (fun Q => op_any (fun K hK => ?_))
              go_simp
              exact hK _ _ rfl hJ (Below.refl _ _)
            · intro ac wd hJ hfr hdep
              have s106 : ac.tmps.getD 106 undef = .bool true := hdep 0 _ 106 (by decide) rfl rfl
              have s106' := slot' s106
              clear hfr hdep
              refine if_wanted rfl (fun Q => op_any (fun K hK => ?_))
              go_simp
              exact hK _ _ rfl hJ (Below.refl _ _)
            · intro ac wd hJ hfr hdep
              have s107 : ac.tmps.getD 107 undef = .bool false := hdep 1 _ 107 (by decide) rfl rfl
              have s107' := slot' s107
              clear hfr hdep
              refine if_wanted rfl (fun Q => op_any (fun K hK => ?_))
              go_simp
              exact hK _ _ rfl hJ (Below.refl _ _)
            · intro ac wd hJ hfr hdep
              have sg : ac.tmps.getD 108 undef = .bool false := hdep 2 _ 108 (by decide) rfl rfl
              have s4 : ac.tmps.getD 4 undef = .bool false := (hfr 4 (by decide)).trans rfl
              have s4' := slot' s4
              clear hfr hdep
              refine if_wanted (wanted_yes rfl rfl rfl sg) (fun Q => op_any (fun K hK => ?_))
              go_simp
              exact hK _ _ rfl hJ (Below.refl _ _)
            · intro ac wd hJ hfr hdep
              have sg : ac.tmps.getD 108 undef = .bool false := hdep 2 _ 108 (by decide) rfl rfl
              have s109 : ac.tmps.getD 109 undef = .bool false := hdep 3 _ 109 (by decide) rfl rfl
              have s109' := slot' s109
              clear hfr hdep
              refine if_wanted (wanted_yes rfl rfl rfl sg) (fun Q => op_any (fun K hK => ?_))
              go_simp
              exact hK _ _ rfl hJ (Below.refl _ _)
            · intro ac wd hJ hfr hdep
              have s108 : ac.tmps.getD 108 undef = .bool false := hdep 2 _ 108 (by decide) rfl rfl
              have s110 : ac.tmps.getD 110 undef = .bool true := hdep 4 _ 110 (by decide) rfl rfl
              have s108' := slot' s108
              have s110' := slot' s110
              clear hfr hdep
              refine if_wanted rfl (fun Q => op_any (fun K hK => ?_))
              go_simp
              exact hK _ _ rfl hJ (Below.refl _ _)
            · intro ac wd hJ hfr hdep
              have s111 : ac.tmps.getD 111 undef = .bool true := hdep 5 _ 111 (by decide) rfl rfl
              have s111' := slot' s111
              clear hfr hdep
              refine if_wanted rfl (fun Q => op_any (fun K hK => ?_))
              go_simp
              exact hK _ _ rfl hJ (Below.refl _ _)
            · intro ac wd hJ hfr hdep
              have sg : ac.tmps.getD 112 undef = .bool true := hdep 6 _ 112 (by decide) rfl rfl
              exact if_unwanted (wanted_no rfl rfl rfl sg (by decide)) rfl
            · intro ac wd hJ hfr hdep
              have sg : ac.tmps.getD 112 undef = .bool true := hdep 6 _ 112 (by decide) rfl rfl
              exact if_unwanted (wanted_no rfl rfl rfl sg (by decide)) rfl
            · intro ac wd hJ hfr hdep
              have sg : ac.tmps.getD 112 undef = .bool true := hdep 6 _ 112 (by decide) rfl rfl
              exact if_unwanted (wanted_no rfl rfl rfl sg (by decide)) rfl
            · intro ac wd hJ hfr hdep
              have sg : ac.tmps.getD 112 undef = .bool true := hdep 6 _ 112 (by decide) rfl rfl
              exact if_unwanted (wanted_no rfl rfl rfl sg (by decide)) rfl
            · intro ac wd hJ hfr hdep
              have sg : ac.tmps.getD 112 undef = .bool true := hdep 6 _ 112 (by decide) rfl rfl
              exact if_unwanted (wanted_no rfl rfl rfl sg (by decide)) rfl
            · intro ac wd hJ hfr hdep
              have sg : ac.tmps.getD 112 undef = .bool true := hdep 6 _ 112 (by decide) rfl rfl
              exact if_unwanted (wanted_no rfl rfl rfl sg (by decide)) rfl
            · intro ac wd hJ hfr hdep
              have s112 : ac.tmps.getD 112 undef = .bool true := hdep 6 _ 112 (by decide) rfl rfl
              have s118 : ac.tmps.getD 118 undef = undef := hdep 12 _ 118 (by decide) rfl rfl
              have s112' := slot' s112
              have s118' := slot' s118
              clear hfr hdep
              refine if_wanted rfl (fun Q => op_any (fun K hK => ?_))
              go_simp
              exact hK _ _ rfl hJ (Below.refl _ _)
            intro f17 w4 hJ4 hR
            have e0 : f17 0 = .bool true := hR 0 (by decide)
            have e1 : f17 1 = .bool false := hR 1 (by decide)
            have e2 : f17 2 = .bool false := hR 2 (by decide)
            have e3 : f17 3 = .bool false := hR 3 (by decide)
            have e4 : f17 4 = .bool true := hR 4 (by decide)
            have e5 : f17 5 = .bool true := hR 5 (by decide)
            have e6 : f17 6 = .bool true := hR 6 (by decide)
            have e7 : f17 7 = undef := hR 7 (by decide)
            have e8 : f17 8 = undef := hR 8 (by decide)
            have e9 : f17 9 = undef := hR 9 (by decide)
            have e10 : f17 10 = undef := hR 10 (by decide)
            have e11 : f17 11 = undef := hR 11 (by decide)
            have e12 : f17 12 = undef := hR 12 (by decide)
            have e13 : f17 13 = (Value.bool true) := hR 13 (by decide)
            clear hR
            simp only [finA, Act.put, List.setIfInBounds_toArray, List.set_cons_succ, List.set_cons_zero, Nat.reduceAdd, e0, e1, e2, e3, e4, e5, e6, e7, e8, e9, e10, e11, e12, e13]
            clear e0 e1 e2 e3 e4 e5 e6 e7 e8 e9 e10 e11 e12 e13
            have Hb10 := Lib.hid (bnext Hb9.out hJ4)
            clear hJ4
            go_wp2_with fail
            go_ret
            exact ⟨by rw [HX.out]; rfl, Hb10.out⟩
          · have HX : Hid (E = if (d != xd) then 22 else 0) := hE.out
            clear hE
            refine wp_region_specs [
              Spec.val (.bool true),
              Spec.val (.bool false),
              Spec.val (.bool false),
              Spec.val (.bool true),
              Spec.val (.bool false),
              Spec.val (.bool false),
              Spec.val (.bool false),
              Spec.val (.pointer (some ⟨B0, 8, none⟩)),
              Spec.val (.int .i64 d),
              Spec.val (.pointer (some ⟨B0, 4, none⟩)),
              Spec.val (.int .i64 dc),
              Spec.val (.int .i64 xd),
              Spec.val (.bool (d != xd)),
              Spec.val (.bool (d != xd))] w1 (by kernel_rfl) (by repeat (first | exact Below.refl _ _ | assumption | refine below_drewN ?_ _ | refine Below.drew ?_ | refine Below.alloc ?_ (Nat.le_refl _) _ | refine bal ?_ _ | refine bnext ?_ (by assumption))) (n := 120) rfl (by decide +kernel) ⟨?_, ?_, ?_, ?_, ?_, ?_, ?_, ?_, ?_, ?_, ?_, ?_, ?_, ?_, trivial⟩ ?_
            · intro ac wd hJ hfr hdep
              have s3 : ac.tmps.getD 3 undef = .bool true := (hfr 3 (by decide)).trans rfl
              have s3' := slot' s3
              clear hfr hdep
              refine if_wanted rfl (fun Q => op_any (fun K hK => ?_))
              go_simp
              exact hK _ _ rfl hJ (Below.refl _ _)
            · intro ac wd hJ hfr hdep
              have s106 : ac.tmps.getD 106 undef = .bool true := hdep 0 _ 106 (by decide) rfl rfl
              have s106' := slot' s106
              clear hfr hdep
              refine if_wanted rfl (fun Q => op_any (fun K hK => ?_))
              go_simp
              exact hK _ _ rfl hJ (Below.refl _ _)
            · intro ac wd hJ hfr hdep
              have s107 : ac.tmps.getD 107 undef = .bool false := hdep 1 _ 107 (by decide) rfl rfl
              have s107' := slot' s107
              clear hfr hdep
              refine if_wanted rfl (fun Q => op_any (fun K hK => ?_))
              go_simp
              exact hK _ _ rfl hJ (Below.refl _ _)
            · intro ac wd hJ hfr hdep
              have sg : ac.tmps.getD 108 undef = .bool false := hdep 2 _ 108 (by decide) rfl rfl
              have s4 : ac.tmps.getD 4 undef = .bool true := (hfr 4 (by decide)).trans rfl
              have s4' := slot' s4
              clear hfr hdep
              refine if_wanted (wanted_yes rfl rfl rfl sg) (fun Q => op_any (fun K hK => ?_))
              go_simp
              exact hK _ _ rfl hJ (Below.refl _ _)
            · intro ac wd hJ hfr hdep
              have sg : ac.tmps.getD 108 undef = .bool false := hdep 2 _ 108 (by decide) rfl rfl
              have s109 : ac.tmps.getD 109 undef = .bool true := hdep 3 _ 109 (by decide) rfl rfl
              have s109' := slot' s109
              clear hfr hdep
              refine if_wanted (wanted_yes rfl rfl rfl sg) (fun Q => op_any (fun K hK => ?_))
              go_simp
              exact hK _ _ rfl hJ (Below.refl _ _)
            · intro ac wd hJ hfr hdep
              have s108 : ac.tmps.getD 108 undef = .bool false := hdep 2 _ 108 (by decide) rfl rfl
              have s110 : ac.tmps.getD 110 undef = .bool false := hdep 4 _ 110 (by decide) rfl rfl
              have s108' := slot' s108
              have s110' := slot' s110
              clear hfr hdep
              refine if_wanted rfl (fun Q => op_any (fun K hK => ?_))
              go_simp
              exact hK _ _ rfl hJ (Below.refl _ _)
            · intro ac wd hJ hfr hdep
              have s111 : ac.tmps.getD 111 undef = .bool false := hdep 5 _ 111 (by decide) rfl rfl
              have s111' := slot' s111
              clear hfr hdep
              refine if_wanted rfl (fun Q => op_any (fun K hK => ?_))
              go_simp
              exact hK _ _ rfl hJ (Below.refl _ _)
            · intro ac wd hJ hfr hdep
              have sg : ac.tmps.getD 112 undef = .bool false := hdep 6 _ 112 (by decide) rfl rfl
              have s1 : ac.tmps.getD 1 undef = .pointer (some ⟨B0, 0, none⟩) := (hfr 1 (by decide)).trans rfl
              have s1' := slot' s1
              clear hfr hdep
              refine if_wanted (wanted_yes rfl rfl rfl sg) (fun Q => op_any (fun K hK => ?_))
              go_simp
              exact hK _ _ rfl hJ (Below.refl _ _)
            · intro ac wd hJ hfr hdep
              have sg : ac.tmps.getD 112 undef = .bool false := hdep 6 _ 112 (by decide) rfl rfl
              have s113 : ac.tmps.getD 113 undef = .pointer (some ⟨B0, 8, none⟩) := hdep 7 _ 113 (by decide) rfl rfl
              have s113' := slot' s113
              clear hfr hdep
              refine if_wanted (wanted_yes rfl rfl rfl sg) (fun Q => op_any (fun K hK => ?_))
              have hq := (HB.out.below hJ).c 8 _ rfl
              go_simp
              exact hK _ _ rfl hJ (Below.refl _ _)
            · intro ac wd hJ hfr hdep
              have sg : ac.tmps.getD 112 undef = .bool false := hdep 6 _ 112 (by decide) rfl rfl
              have s1 : ac.tmps.getD 1 undef = .pointer (some ⟨B0, 0, none⟩) := (hfr 1 (by decide)).trans rfl
              have s1' := slot' s1
              clear hfr hdep
              refine if_wanted (wanted_yes rfl rfl rfl sg) (fun Q => op_any (fun K hK => ?_))
              go_simp
              exact hK _ _ rfl hJ (Below.refl _ _)
            · intro ac wd hJ hfr hdep
              have sg : ac.tmps.getD 112 undef = .bool false := hdep 6 _ 112 (by decide) rfl rfl
              have s115 : ac.tmps.getD 115 undef = .pointer (some ⟨B0, 4, none⟩) := hdep 9 _ 115 (by decide) rfl rfl
              have s115' := slot' s115
              clear hfr hdep
              refine if_wanted (wanted_yes rfl rfl rfl sg) (fun Q => op_any (fun K hK => ?_))
              have hq := (HB.out.below hJ).c 4 _ rfl
              go_simp
              exact hK _ _ rfl hJ (Below.refl _ _)
            · intro ac wd hJ hfr hdep
              have sg : ac.tmps.getD 112 undef = .bool false := hdep 6 _ 112 (by decide) rfl rfl
              have s116 : ac.tmps.getD 116 undef = .int .i64 dc := hdep 10 _ 116 (by decide) rfl rfl
              have s116' := slot' s116
              clear hfr hdep
              refine if_wanted (wanted_yes rfl rfl rfl sg) (fun Q => op_any (fun K hK => ?_))
              go_simp
              refine (HDp.out _).mono ?_
              rintro e wz ⟨rfl, hbz⟩
              exact hK _ _ rfl (bnext hJ hbz) hbz
            · intro ac wd hJ hfr hdep
              have sg : ac.tmps.getD 112 undef = .bool false := hdep 6 _ 112 (by decide) rfl rfl
              have s114 : ac.tmps.getD 114 undef = .int .i64 d := hdep 8 _ 114 (by decide) rfl rfl
              have s117 : ac.tmps.getD 117 undef = .int .i64 xd := hdep 11 _ 117 (by decide) rfl rfl
              have s114' := slot' s114
              have s117' := slot' s117
              clear hfr hdep
              refine if_wanted (wanted_yes rfl rfl rfl sg) (fun Q => op_any (fun K hK => ?_))
              go_simp
              exact hK _ _ rfl hJ (Below.refl _ _)
            · intro ac wd hJ hfr hdep
              have s112 : ac.tmps.getD 112 undef = .bool false := hdep 6 _ 112 (by decide) rfl rfl
              have s118 : ac.tmps.getD 118 undef = .bool (d != xd) := hdep 12 _ 118 (by decide) rfl rfl
              have s112' := slot' s112
              have s118' := slot' s118
              clear hfr hdep
              refine if_wanted rfl (fun Q => op_any (fun K hK => ?_))
              go_simp
              exact hK _ _ rfl hJ (Below.refl _ _)
            intro f17 w4 hJ4 hR
            have e0 : f17 0 = .bool true := hR 0 (by decide)
            have e1 : f17 1 = .bool false := hR 1 (by decide)
            have e2 : f17 2 = .bool false := hR 2 (by decide)
            have e3 : f17 3 = .bool true := hR 3 (by decide)
            have e4 : f17 4 = .bool false := hR 4 (by decide)
            have e5 : f17 5 = .bool false := hR 5 (by decide)
            have e6 : f17 6 = .bool false := hR 6 (by decide)
            have e7 : f17 7 = .pointer (some ⟨B0, 8, none⟩) := hR 7 (by decide)
            have e8 : f17 8 = .int .i64 d := hR 8 (by decide)
            have e9 : f17 9 = .pointer (some ⟨B0, 4, none⟩) := hR 9 (by decide)
            have e10 : f17 10 = .int .i64 dc := hR 10 (by decide)
            have e11 : f17 11 = .int .i64 xd := hR 11 (by decide)
            have e12 : f17 12 = .bool (d != xd) := hR 12 (by decide)
            have e13 : f17 13 = .bool (d != xd) := hR 13 (by decide)
            clear hR
            simp only [finA, Act.put, List.setIfInBounds_toArray, List.set_cons_succ, List.set_cons_zero, Nat.reduceAdd, e0, e1, e2, e3, e4, e5, e6, e7, e8, e9, e10, e11, e12, e13]
            clear e0 e1 e2 e3 e4 e5 e6 e7 e8 e9 e10 e11 e12 e13
            have Hb10 := Lib.hid (bnext Hb9.out hJ4)
            clear hJ4
            by_cases hd : d = xd
            · have HX2 : Hid (E = 0) := by show _ = _; rw [HX.out, hd, bne_self_eq_false]; rfl
              have hd' : (d != xd) = false := by rw [bne_eq_false_iff_eq]; exact hd
              clear HX hd
              go_wp2_with fail
              go_ret
              exact ⟨by rw [HX2.out]; rfl, Hb10.out⟩
            · have hd' : (d != xd) = true := by rw [bne_iff_ne]; exact hd
              have HX2 : Hid (E = 22) := by show _ = _; rw [HX.out, hd']; rfl
              clear HX hd
              go_wp2_with fail
              go_ret
              exact ⟨by rw [HX2.out]; rfl, Hb10.out⟩
end Go.Proofs.YtgohfbfdhdepnaaDoor
