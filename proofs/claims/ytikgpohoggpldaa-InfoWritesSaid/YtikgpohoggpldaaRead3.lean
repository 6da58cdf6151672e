/-
  info.Read of 34 bytes: the walk.
-/
import Derived.Test.YtikgpohoggpldaaRead2
namespace Go.Proofs.Ytikgpohoggpldaa
open Go.RowKit

/-- What Read answers of 34 bytes. -/
def readV : Bool → List Nat → Value
  | true, l => .tuple #[.agg (rV l), .int .i64 0]
  | false, _ => .tuple #[.agg zeroV, .int .i64 10]
theorem nv8_one (l : List Nat) : ∀ v ∈ nv8 l, v.oneCell' = true := by
  intro v hv
  obtain ⟨x, -, rfl⟩ := List.mem_map.1 hv
  rfl
theorem belowDown {B R : Nat} {w w' : World} (h : Below B w w') (hR : R ≤ B) : Below R w w' := ⟨h.1, h.2, h.3, h.4, fun k hk => h.5 k (by omega)⟩

set_option maxHeartbeats 1000000 in
theorem read_34 (l : List Nat) (hl8 : ∀ x ∈ l, x < 256) (hl : l.length = 34) (A : Option Addr) (c : Nat) (w : World) (hr : Rd w A (nv8 l)) (hc : 34 ≤ c) :
    Calls Try.prog 14 #[.slice A 34 c] w fun e w' => e = .returned (readV (rMay l) l) ∧ Below w.heap.size w w' := by
  have Hl := Lib.hid hl
  have H8 := Lib.hid hl8
  have Hr := Lib.hid hr
  have h0 : 0 < l.length := by omega
  obtain ⟨b, o, hA, hcb⟩ := hr 0 (.int .u8 (l[0] : Nat)) (by simp [nv8, h0])
  have c1 : (2 : Int) ≤ c := by omega
  have c2 : (4 : Int) ≤ c := by omega
  have c3 : (7 : Int) ≤ c := by omega
  have c4 : (10 : Int) ≤ c := by omega
  have c5 : (18 : Int) ≤ c := by omega
  subst hA
  have HB : Hid (b < w.heap.size) := cell_lt hcb
  clear hcb
  clear h0
  clear hr hl8
  clear hl
  obtain ⟨y1, hy1⟩ : ∃ y : Int, (rMn l : Int) = y := ⟨_, rfl⟩
  obtain ⟨y2, hy2⟩ : ∃ y : Int, (rMx l : Int) = y := ⟨_, rfl⟩
  obtain ⟨y3, hy3⟩ : ∃ y : Int, (rMf l : Int) = y := ⟨_, rfl⟩
  obtain ⟨y4, hy4⟩ : ∃ y : Int, (rXf l : Int) = y := ⟨_, rfl⟩
  have Hy1 := Lib.hid hy1
  have Hy2 := Lib.hid hy2
  have Hy3 := Lib.hid hy3
  have Hy4 := Lib.hid hy4
  obtain ⟨V, hV⟩ : ∃ V, wrap64 (rR l : Nat) = V := ⟨_, rfl⟩
  have HV := Lib.hid hV
  have N5 := num8_at l H8.out b o 10 8 (c - 10) w.heap.size w Hr.out (by rw [Hl.out]; omega) (by omega) rfl V hV
  have hRl := rR_lt l H8.out
  obtain ⟨q0, hq0⟩ : ∃ y : Int, (rP0 l : Int) = y := ⟨_, rfl⟩
  obtain ⟨q1, hq1⟩ : ∃ y : Int, (rP1 l : Int) = y := ⟨_, rfl⟩
  obtain ⟨q2, hq2⟩ : ∃ y : Int, (rP2 l : Int) = y := ⟨_, rfl⟩
  obtain ⟨q7, hq7⟩ : ∃ y : Int, (rTt l : Int) = y := ⟨_, rfl⟩
  have E0 := (e0_of l V hRl hV).trans hq0
  have E1 := (e1_of l V hV).trans hq1
  have E2 := (e2_of l V hV).trans hq2
  have E7 := (e7_of l V hV).trans hq7
  have Hq0 := Lib.hid hq0; clear hq0
  have Hq1 := Lib.hid hq1; clear hq1
  have Hq2 := Lib.hid hq2; clear hq2
  have Hq7 := Lib.hid hq7; clear hq7
  clear hV hRl
  have N1 := num_at l H8.out b o 0 2 c w.heap.size w Hr.out (by rw [Hl.out]; omega) (by omega) rfl y1 hy1
  rw [Nat.add_zero] at N1
  have N2 := num_at l H8.out b o 2 2 (c - 2) w.heap.size w Hr.out (by rw [Hl.out]; omega) (by omega) rfl y2 hy2
  have N3 := num_at l H8.out b o 4 3 (c - 4) w.heap.size w Hr.out (by rw [Hl.out]; omega) (by omega) rfl y3 hy3
  have N4 := num_at l H8.out b o 7 3 (c - 7) w.heap.size w Hr.out (by rw [Hl.out]; omega) (by omega) rfl y4 hy4
  clear hy1 hy2 hy3 hy4
  have d1 : ¬ c = 2 := by omega
  have d2 : ¬ c = 4 := by omega
  have d3 : ¬ c = 7 := by omega
  have d4 : ¬ c = 10 := by omega
  have d5 : ¬ c = 18 := by omega
  have Ht16 := Lib.hid (tail16 l Hl.out)
  have Hsrc := Lib.hid (Hr.out.from 18)
  rw [← nv8_drop] at Hsrc
  obtain ⟨Q, hQ⟩ : ∃ Q, mayB q0 q1 q2 y1 y2 y3 y4 q7 = Q := ⟨_, rfl⟩
  have HQ : Hid (rMay l = Q) := by
    show _ = _
    unfold rMay
    rw [Hq0.out, Hq1.out, Hq2.out, Hq7.out, Hy1.out, Hy2.out, Hy3.out, Hy4.out]; exact hQ
  have HV2 : Hid (rV l = ofV q0 q1 q2 y1 y2 y3 y4 q7 (rS l)) := by
    show _ = _
    unfold rV
    rw [Hq0.out, Hq1.out, Hq2.out, Hq7.out, Hy1.out, Hy2.out, Hy3.out, Hy4.out]
  have HC : Hid (∀ W : World, Calls Try.prog 19 #[.agg (ofV q0 q1 q2 y1 y2 y3 y4 q7 (rS l))] W fun e w' => e = .returned (.int .i64 (chk Q)) ∧ Below W.heap.size W w') := fun W => hQ ▸ check_any q0 q1 q2 y1 y2 y3 y4 q7 (rS l) W
  clear hQ
  go_enter Try.func14, Try.ntmps14
  go_upto_region 5 with fail
  refine wp_region_headN (fun w' => Below w.heap.size w w') 13 2 (by kernel_rfl) rfl (by kernel_rfl) (by repeat (first | exact Below.refl _ _ | assumption | refine below_drewN ?_ _ | refine Below.drew ?_ | refine Below.alloc ?_ (Nat.le_refl _) _ | refine bal ?_ _ | refine bnext ?_ (by assumption))) ?_
  simp only [List.take_succ_cons, List.take_zero]
  refine' wpHead_op _ (by rfl) ?hv1 ?hrest1
  case hv1 => (intro w' hS'; (try dsimp only at hS'); go_simp; try with_reducible rfl)
  try simp only [Act.put, List.setIfInBounds_toArray, List.set_cons_zero, List.set_cons_succ]
  refine' wpHead_op _ (by rfl) ?hv2 ?hrest2
  case hv2 => (intro w' hS'; (try dsimp only at hS'); go_simp; try with_reducible rfl)
  try simp only [Act.put, List.setIfInBounds_toArray, List.set_cons_zero, List.set_cons_succ]
  refine' wpHead_call (Value.int .i64 y1) _ _ (by rfl) ?hv3 ?hc3 ?hrest3
  case hv3 => (intro w'; go_simp; first | done | (refine ⟨?_, ?_⟩ <;> with_reducible rfl) | with_reducible rfl)
  case hc3 => exact (fun W hW => N1.out W hW)
  try simp only [Act.put, List.setIfInBounds_toArray, List.set_cons_zero, List.set_cons_succ]
  refine' wpHead_op _ (by rfl) ?hv4 ?hrest4
  case hv4 => (intro w' hS'; (try dsimp only at hS'); go_simp; try with_reducible rfl)
  try simp only [Act.put, List.setIfInBounds_toArray, List.set_cons_zero, List.set_cons_succ]
  refine' wpHead_op _ (by rfl) ?hv5 ?hrest5
  case hv5 => (intro w' hS'; (try dsimp only at hS'); go_simp; try with_reducible rfl)
  try simp only [Act.put, List.setIfInBounds_toArray, List.set_cons_zero, List.set_cons_succ]
  refine' wpHead_call (Value.int .i64 y2) _ _ (by rfl) ?hv6 ?hc6 ?hrest6
  case hv6 => (intro w'; go_simp; first | done | (refine ⟨?_, ?_⟩ <;> with_reducible rfl) | with_reducible rfl)
  case hc6 => exact (fun W hW => N2.out W hW)
  try simp only [Act.put, List.setIfInBounds_toArray, List.set_cons_zero, List.set_cons_succ]
  refine' wpHead_op _ (by rfl) ?hv7 ?hrest7
  case hv7 => (intro w' hS'; (try dsimp only at hS'); go_simp; try with_reducible rfl)
  try simp only [Act.put, List.setIfInBounds_toArray, List.set_cons_zero, List.set_cons_succ]
  refine' wpHead_op _ (by rfl) ?hv8 ?hrest8
  case hv8 => (intro w' hS'; (try dsimp only at hS'); go_simp; try with_reducible rfl)
  try simp only [Act.put, List.setIfInBounds_toArray, List.set_cons_zero, List.set_cons_succ]
  refine' wpHead_call (Value.int .i64 y3) _ _ (by rfl) ?hv9 ?hc9 ?hrest9
  case hv9 => (intro w'; go_simp; first | done | (refine ⟨?_, ?_⟩ <;> with_reducible rfl) | with_reducible rfl)
  case hc9 => exact (fun W hW => N3.out W hW)
  try simp only [Act.put, List.setIfInBounds_toArray, List.set_cons_zero, List.set_cons_succ]
  refine' wpHead_op _ (by rfl) ?hv10 ?hrest10
  case hv10 => (intro w' hS'; (try dsimp only at hS'); go_simp; try with_reducible rfl)
  try simp only [Act.put, List.setIfInBounds_toArray, List.set_cons_zero, List.set_cons_succ]
  refine' wpHead_op _ (by rfl) ?hv11 ?hrest11
  case hv11 => (intro w' hS'; (try dsimp only at hS'); go_simp; try with_reducible rfl)
  try simp only [Act.put, List.setIfInBounds_toArray, List.set_cons_zero, List.set_cons_succ]
  refine' wpHead_call (Value.int .i64 y4) _ _ (by rfl) ?hv12 ?hc12 ?hrest12
  case hv12 => (intro w'; go_simp; first | done | (refine ⟨?_, ?_⟩ <;> with_reducible rfl) | with_reducible rfl)
  case hc12 => exact (fun W hW => N4.out W hW)
  try simp only [Act.put, List.setIfInBounds_toArray, List.set_cons_zero, List.set_cons_succ]
  refine' wpHead_op _ (by rfl) ?hv13 ?hrest13
  case hv13 => (intro w' hS'; (try dsimp only at hS'); go_simp; try with_reducible rfl)
  try simp only [Act.put, List.setIfInBounds_toArray, List.set_cons_zero, List.set_cons_succ]
  refine wpHead_nil ?_
  refine wpAnyH_next (i := 13) (by kernel_rfl) rfl (by rfl) (fun K hK => ?_)
  go_simp
  refine hK.out _ _ (by repeat (first | exact Below.refl _ _ | assumption | refine below_drewN ?_ _ | refine Below.drew ?_ | refine Below.alloc ?_ (Nat.le_refl _) _ | refine bal ?_ _ | refine bnext ?_ (by assumption))) ?_
  clear hK K
  try simp only [Act.put, List.setIfInBounds_toArray, List.set_cons_zero, List.set_cons_succ]
  refine wpAnyH_next (i := 14) (by kernel_rfl) rfl (by rfl) (fun K hK => ?_)
  refine wp_store_row' (c := zeroV) (c' := ofV 0 0 0 y1 y2 y3 y4 0 fun _ => 0) (t := 34) 34 _ _ rfl (w.heap.size + 1) rfl rfl (heap_alloc2_new w _ _) (by kernel_rfl) rfl (ofV_one _ _ _ _ _ _ _ _ _) ?_
  intro w3 hw3
  have hb3 : Below w.heap.size w w3 := by rw [← hw3]; exact Below.setRow (by repeat (first | exact Below.refl _ _ | assumption | refine below_drewN ?_ _ | refine Below.drew ?_ | refine Below.alloc ?_ (Nat.le_refl _) _ | refine bal ?_ _ | refine bnext ?_ (by assumption))) (by omega) _
  have hI : InfAt w3 (w.heap.size + 1) 0 0 0 y1 y2 y3 y4 0 fun _ => 0 := by rw [← hw3]; exact setRow_heap _ _ _ _ _ _ (heap_alloc2_new w _ _)
  have hR : InfAt w3 w.heap.size 0 0 0 0 0 0 0 0 fun _ => 0 := by rw [← hw3]; exact (setRow_other _ _ _ _ (by omega)).trans (hrow_alloc (heap_alloc_last w _) _)
  clear hw3
  refine hK.out _ _ hb3 ?_
  clear hK K
  try simp only [Act.put, List.setIfInBounds_toArray, List.set_cons_zero, List.set_cons_succ]
  refine wpAnyH_doneN (by kernel_rfl) ?_
  have hbB : b < w.heap.size := HB.out
  have hRB : w.heap.size ≠ w.heap.size + 1 := by omega
  have hBs : w.heap.size ≤ w.heap.size + 1 := by omega
  have hRlt : w.heap.size < w.heap.size + 1 := by omega
  have hRs : w.heap.size ≤ w.heap.size := by omega
  generalize w.heap.size + 1 = B at *
  obtain ⟨R, hRe⟩ : ∃ R, w.heap.size = R := ⟨_, rfl⟩
  rw [hRe] at hb3 hR hRB hBs hRs hRlt hbB ⊢
  have HI := Lib.hid hI; clear hI
  have HR := Lib.hid hR; clear hR
  go_wp2_with fail
  refine (N5.out w3 (by rw [hRe]; exact hb3)).mono ?_
  rintro e w4 ⟨rfl, rfl⟩
  have hI := HI.out
  have hj0 := hI.cell 0 (.int .i64 0) rfl
  have hj1 := hI.cell 1 (.int .i64 0) rfl
  have hj2 := hI.cell 2 (.int .i64 0) rfl
  have hj7 := hI.cell 7 (.int .i64 0) rfl
  have hk0 := hI.fr 0
  have hk1 := hI.fr 1
  have hk2 := hI.fr 2
  have hk7 := hI.fr 7
  clear hI
  go_upto_region 9 with fail
  have HI2 : Hid (InfAt ((((w4.setCell ⟨B, 0, none⟩ (.int .i64 q0)).setCell ⟨B, 1, none⟩ (.int .i64 q1)).setCell ⟨B, 2, none⟩ (.int .i64 q2)).setCell ⟨B, 7, none⟩ (.int .i64 q7)) B q0 q1 q2 y1 y2 y3 y4 q7 fun _ => 0) := (((HI.out.set0 q0).set1 q1).set2 q2).set7 q7
  have HR2 : Hid (InfAt ((((w4.setCell ⟨B, 0, none⟩ (.int .i64 q0)).setCell ⟨B, 1, none⟩ (.int .i64 q1)).setCell ⟨B, 2, none⟩ (.int .i64 q2)).setCell ⟨B, 7, none⟩ (.int .i64 q7)) R 0 0 0 0 0 0 0 0 fun _ => 0) := (((HR.out.other _ _ hRB).other _ _ hRB).other _ _ hRB).other _ _ hRB
  have hb5 : Below R w ((((w4.setCell ⟨B, 0, none⟩ (.int .i64 q0)).setCell ⟨B, 1, none⟩ (.int .i64 q1)).setCell ⟨B, 2, none⟩ (.int .i64 q2)).setCell ⟨B, 7, none⟩ (.int .i64 q7)) := (((hb3.setCell hBs _).setCell hBs _).setCell hBs _).setCell hBs _
  clear HI HR hj0 hj1 hj2 hj7 hk0 hk1 hk2 hk7
  generalize hw5 : ((((w4.setCell ⟨B, 0, none⟩ (.int .i64 q0)).setCell ⟨B, 1, none⟩ (.int .i64 q1)).setCell ⟨B, 2, none⟩ (.int .i64 q2)).setCell ⟨B, 7, none⟩ (.int .i64 q7)) = w5 at *
  clear hw5
  refine wp_region_headN (fun w' => Below R w w') 4 1 (by kernel_rfl) rfl (by kernel_rfl) (by repeat (first | exact Below.refl _ _ | assumption | refine below_drewN ?_ _ | refine Below.drew ?_ | refine Below.alloc ?_ (Nat.le_refl _) _ | refine bal ?_ _ | refine bnext ?_ (by assumption))) ?_
  simp only [List.take_succ_cons, List.take_zero]
  refine' wpHead_op _ (by rfl) ?hv14 ?hrest14
  case hv14 => (intro w' hS'; (try dsimp only at hS'); go_simp; try with_reducible rfl)
  try simp only [Act.put, List.setIfInBounds_toArray, List.set_cons_zero, List.set_cons_succ]
  refine' wpHead_op _ (by rfl) ?hv15 ?hrest15
  case hv15 => (intro w' hS'; (try dsimp only at hS'); go_simp; try with_reducible rfl)
  try simp only [Act.put, List.setIfInBounds_toArray, List.set_cons_zero, List.set_cons_succ]
  refine' wpHead_op _ (by rfl) ?hv16 ?hrest16
  case hv16 => (intro w' hS'; (try dsimp only at hS'); go_simp; try with_reducible rfl)
  try simp only [Act.put, List.setIfInBounds_toArray, List.set_cons_zero, List.set_cons_succ]
  refine' wpHead_op _ (by rfl) ?hv17 ?hrest17
  case hv17 => (intro w' hS'; (try dsimp only at hS'); go_simp; try with_reducible rfl)
  try simp only [Act.put, List.setIfInBounds_toArray, List.set_cons_zero, List.set_cons_succ]
  refine wpHead_nil ?_
  refine wpAnyH_next (i := 4) (by kernel_rfl) rfl (by rfl) (fun K hK => ?_)
  refine of_step (c := Region.wanted _ (yielded #[] _)) rfl (step_copy_splice (E := True) rfl (.tmp 54) (.tmp 56) _ _ rfl 5 Try.underlying41 (by kernel_rfl) (some ⟨B, 8, none⟩) (some ⟨b, o + 18, none⟩) 16 16 16 (c - 18) rfl rfl B 8 (ofV q0 q1 q2 y1 y2 y3 y4 q7 fun _ => 0).toList 34 HI2.out (nv8 (l.drop 18)) (by rw [Ht16.out]; rfl) (fun _ => ⟨rfl, _, rfl, fun j v h => ?hsr⟩) (by rw [Ht16.out]; exact Nat.le_refl 24) (nv8_one _) B w5.drew (Below.refl _ _) (Nat.le_refl _) ?hgo)
  case hsr =>
    obtain ⟨b', o', e, hcell⟩ := (Hsrc.out.below (w' := w5.drew) (by rw [hRe]; exact hb5.drew)) j v h
    injection e with e
    injection e with e1 e2
    subst e1 e2
    by_cases hj : j = 0
    · subst hj; simpa [Addr.add] using hcell
    · simpa [Addr.add, hj] using hcell
  intro w7 HG hb7
  have HI7 : Hid (InfAt w7 B q0 q1 q2 y1 y2 y3 y4 q7 (rS l)) := by
    have h := HG.out
    rw [Ht16.out] at h
    exact h
  have HR7 : Hid (InfAt w7 R 0 0 0 0 0 0 0 0 fun _ => 0) := (hb7.5 R hRlt).trans HR2.out
  have hb8 : Below R w w7 := hb5.drew.trans (belowDown hb7 hBs)
  clear HG HI2 HR2 hb7 hb5
  refine hK.out _ _ hb8 ?_
  clear hK K
  try simp only [Act.put, List.setIfInBounds_toArray, List.set_cons_zero, List.set_cons_succ]
  refine wpAnyH_doneN (by kernel_rfl) ?_
  go_wp2_with (first | (refine wpList_load_row rfl 34 _ rfl B rfl 34 (ofV q0 q1 q2 y1 y2 y3 y4 q7 (rS l)) (0, 0) _ HI7.out Try.underlying34 rfl (by kernel_rfl) ?_))
  refine (HC.out _).mono ?_
  rintro e w9 ⟨rfl, hb9⟩
  have HI9 : Hid (InfAt w9 B q0 q1 q2 y1 y2 y3 y4 q7 (rS l)) := (hb9.5 B HI7.out.lt).trans HI7.out
  have HR9 : Hid (InfAt w9 R 0 0 0 0 0 0 0 0 fun _ => 0) := (hb9.5 R HR7.out.lt).trans HR7.out
  have hb10 : Below R w w9 := hb8.trans (belowDown hb9 (Nat.le_of_lt HR7.out.lt))
  clear HI7 HR7 hb8 hb9
  cases Q with
  | true =>
    simp only [chk]
    go_wp2_with (first | (refine wpList_load_row rfl 34 _ rfl B rfl 34 (ofV q0 q1 q2 y1 y2 y3 y4 q7 (rS l)) (0, 0) _ HI9.out Try.underlying34 rfl (by kernel_rfl) ?_) | (refine wpList_store_row (c := zeroV) (c' := ofV q0 q1 q2 y1 y2 y3 y4 q7 (rS l)) (t := 34) rfl 34 _ _ rfl R rfl rfl HR9.out (by kernel_rfl) rfl (ofV_one _ _ _ _ _ _ _ _ _) ?_))
    refine bodyPost_ret (results_row_tmp Try.results14 _ _ _ rfl rfl (setRow_heap _ R _ _ 34 (0, 0) HR9.out) Try.underlying34 rfl (by kernel_rfl)) rfl ⟨?_, by rw [hRe]; exact Below.setRow hb10 hRs _⟩
    rw [HQ.out]
    show _ = Ending.returned (.tuple #[.agg (rV l), .int .i64 0])
    rw [HV2.out]; rfl
  | false =>
    simp only [chk]
    go_upto_region 12 with fail
    apply wp_region_lit
    go_step
    go_step
    go_step
    go_step
    go_step
    go_step
    refine wpList_store_row (c := zeroV) (c' := zeroV) (t := 34) rfl 34 _ _ rfl R rfl rfl HR9.out (by kernel_rfl) rfl (ofV_one _ _ _ _ _ _ _ _ _) ?_
    go_wp2_with fail
    refine bodyPost_ret (results_row_tmp Try.results14 _ _ _ rfl rfl (setRow_heap _ R _ _ 34 (0, 0) HR9.out) Try.underlying34 rfl (by kernel_rfl)) rfl ⟨?_, by rw [hRe]; exact Below.setRow hb10 hRs _⟩
    rw [HQ.out]; rfl
end Go.Proofs.Ytikgpohoggpldaa
