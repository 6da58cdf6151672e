/-
  jetsamlaw11.InfoReads: its walk.
-/
import Derived.Test.YtikgpohoggpldaaRdLaw
import Derived.Test.YtikgpohoggpldaaMono
namespace Go.Proofs.Ytikgpohoggpldaa
open Go.RowKit

theorem hrow_below {w w' : World} {g : Nat} {o : Obj} (h : w.heap[g]? = some o) (hb : Below w.heap.size w w') : w'.heap[g]? = some o := by
  have hl : g < w.heap.size := by
    rcases Nat.lt_or_ge g w.heap.size with h1 | h1
    · exact h1
    · rw [Array.getElem?_eq_none h1] at h; cases h
  exact (hb.block g hl).trans h
theorem wp_bin {P : Program} {o : Oper} {a : Act} {w : World} {K : Act → World → Prop} {Q : Exit → Act → World → Prop} (b : BinOp) (T : TypeId) (x y : Operand) (T2 : TypeId) (ho : o.op = .binOp b T x y T2) {xs ys : Array Value} {z : Value} (hx : a.eval x = .agg xs) (hy : a.eval y = .agg ys) (hm : P.eqGuardType P.depth T = false)
    (hr : (binOp b T (.agg xs) (.agg ys)).run P w = .ok z w) (h : K (a.put o.dst z) w) : o.wp P a w K Q := by
  unfold Oper.wp execOp
  simp only [ho, hx, hy, Sem.run_bind, Sem.run_pure, Result.andThen_ok, run_eqGuard_agg (w := w) (hm := hm), hr]
  exact h

theorem eq_arr8 (w : World) (d : Nat) (a b c e f g h i : Int) : (Op.equalIn (d + 2) 44 (.agg #[.int .i64 a, .int .i64 b, .int .i64 c, .int .i64 e, .int .i64 f, .int .i64 g, .int .i64 h, .int .i64 i]) (.agg #[.int .i64 a, .int .i64 b, .int .i64 c, .int .i64 e, .int .i64 f, .int .i64 g, .int .i64 h, .int .i64 i])).run Try.prog w = .ok true w := by
  refine arr_self Try.underlying44 Try.underlying3 (by kernel_rfl) (i := Try.t3) (by kernel_rfl) _ rfl ?_
  intro i hi
  match i, hi with
  | 0, _ => exact ⟨_, rfl⟩
  | 1, _ => exact ⟨_, rfl⟩
  | 2, _ => exact ⟨_, rfl⟩
  | 3, _ => exact ⟨_, rfl⟩
  | 4, _ => exact ⟨_, rfl⟩
  | 5, _ => exact ⟨_, rfl⟩
  | 6, _ => exact ⟨_, rfl⟩
  | 7, _ => exact ⟨_, rfl⟩
  | n + 8, h => exact absurd h (by simp)
set_option maxHeartbeats 1000000 in
theorem eq_ref (w : World) (p0 p1 p2 a b c d e : Int) (s : Nat → Int) : (Op.equalIn 10000 46 (.agg (ofV p0 p1 p2 a b c d e s)) (.agg (ofV p0 p1 p2 a b c d e s))).run Try.prog w = .ok true w := by
  have h1 := eq_arr8 w 9997 p0 p1 p2 a b c d e
  have h2 := eq_sum w 9997 s
  rw [run_equalIn_agg w 9999 _ _ _ (by kernel_rfl) (by kernel_rfl)]
  simp [go_sem, ofV, h1, h2]
theorem eql_ref (w : World) (p0 p1 p2 a b c d e : Int) (s : Nat → Int) : (binOp .eql 46 (.agg (ofV p0 p1 p2 a b c d e s)) (.agg (ofV p0 p1 p2 a b c d e s))).run Try.prog w = .ok (.bool true) w := by
  rw [run_eql_struct, eq_ref]; rfl

set_option maxHeartbeats 1000000 in
theorem reads_out (l : List Nat) (A : Option Addr) (c : Nat) (w : World) (h : 100 < l.length) :
    Calls Try.prog 6 #[.slice A l.length c] w fun e w' => e = .returned (.bool true) ∧ Below w.heap.size w w' := by
  generalize l.length = n at *
  go_enter Try.func6, Try.ntmps6
  go_wp2_with fail
  refine (awake_any _).mono ?_
  rintro e w1 ⟨rfl, hb1⟩
  go_wp2_with fail
  go_ret
  exact ⟨rfl, by repeat (first | exact Below.refl _ _ | assumption | refine below_drewN ?_ _ | refine Below.drew ?_ | refine Below.alloc ?_ (Nat.le_refl _) _ | refine bal ?_ _ | refine bnext ?_ (by assumption))⟩
set_option maxHeartbeats 1000000 in
theorem reads_short (l : List Nat) (A : Option Addr) (c : Nat) (w : World) (h : l.length < 34) :
    Calls Try.prog 6 #[.slice A l.length c] w fun e w' => e = .returned (.bool true) ∧ Below w.heap.size w w' := by
  have HR := Lib.hid (read_short l h A c)
  generalize l.length = n at *
  have hq := fun w => eql_info w 0 0 0 0 0 0 0 0 (fun _ => 0)
  simp only [ofV] at hq
  go_enter Try.func6, Try.ntmps6
  go_wp2_with fail
  refine (HR.out _).mono ?_
  rintro e w1 ⟨rfl, hb1⟩
  have hb : Below w.heap.size w w1 := by repeat (first | exact Below.refl _ _ | assumption | refine below_drewN ?_ _ | refine Below.drew ?_ | refine Below.alloc ?_ (Nat.le_refl _) _ | refine bal ?_ _ | refine bnext ?_ (by assumption))
  clear hb1
  simp only [zeroV, ofV]
  go_wp2_with (first | (refine wpList_store_new rfl 34 _ _ rfl _ rfl rfl rfl (by kernel_rfl) (by rfl) (ofV_one 0 0 0 0 0 0 0 0 (fun _ => 0)) ?_; intro w3 hw3) | (refine wpList_load_row_g (by rfl) 34 _ rfl w1.heap.size rfl 34 #[.int .i64 0, .int .i64 0, .int .i64 0, .int .i64 0, .int .i64 0, .int .i64 0, .int .i64 0, .int .i64 0, .int .u8 0, .int .u8 0, .int .u8 0, .int .u8 0, .int .u8 0, .int .u8 0, .int .u8 0, .int .u8 0, .int .u8 0, .int .u8 0, .int .u8 0, .int .u8 0, .int .u8 0, .int .u8 0, .int .u8 0, .int .u8 0] (0, 0) _ (hw3 ▸ heap_alloc_last w1 _) Try.underlying34 rfl (by kernel_rfl) ?_))
  refine (awake_any _).mono ?_
  rintro e w4 ⟨rfl, hb4⟩
  have hb3 : Below w.heap.size w w3 := by rw [← hw3]; exact bal hb _
  go_wp2_with fail
  go_ret
  exact ⟨rfl, bnext hb3 hb4⟩
set_option maxHeartbeats 1000000 in
theorem reads_long (l : List Nat) (A : Option Addr) (c : Nat) (w : World) (h : 34 < l.length) (h2 : l.length ≤ 100) :
    Calls Try.prog 6 #[.slice A l.length c] w fun e w' => e = .returned (.bool true) ∧ Below w.heap.size w w' := by
  have HR := Lib.hid (read_long l h A c)
  generalize l.length = n at *
  have hq := fun w => eql_info w 0 0 0 0 0 0 0 0 (fun _ => 0)
  simp only [ofV] at hq
  go_enter Try.func6, Try.ntmps6
  go_wp2_with fail
  refine (HR.out _).mono ?_
  rintro e w1 ⟨rfl, hb1⟩
  have hb : Below w.heap.size w w1 := by repeat (first | exact Below.refl _ _ | assumption | refine below_drewN ?_ _ | refine Below.drew ?_ | refine Below.alloc ?_ (Nat.le_refl _) _ | refine bal ?_ _ | refine bnext ?_ (by assumption))
  clear hb1
  simp only [zeroV, ofV]
  go_wp2_with (first | (refine wpList_store_new rfl 34 _ _ rfl _ rfl rfl rfl (by kernel_rfl) (by rfl) (ofV_one 0 0 0 0 0 0 0 0 (fun _ => 0)) ?_; intro w3 hw3) | (refine wpList_load_row_g (by rfl) 34 _ rfl w1.heap.size rfl 34 #[.int .i64 0, .int .i64 0, .int .i64 0, .int .i64 0, .int .i64 0, .int .i64 0, .int .i64 0, .int .i64 0, .int .u8 0, .int .u8 0, .int .u8 0, .int .u8 0, .int .u8 0, .int .u8 0, .int .u8 0, .int .u8 0, .int .u8 0, .int .u8 0, .int .u8 0, .int .u8 0, .int .u8 0, .int .u8 0, .int .u8 0, .int .u8 0] (0, 0) _ (hw3 ▸ heap_alloc_last w1 _) Try.underlying34 rfl (by kernel_rfl) ?_))
  refine (awake_any _).mono ?_
  rintro e w4 ⟨rfl, hb4⟩
  have hb3 : Below w.heap.size w w3 := by rw [← hw3]; exact bal hb _
  go_wp2_with fail
  go_ret
  exact ⟨rfl, bnext hb3 hb4⟩
set_option maxHeartbeats 2000000 in
theorem reads_34 (l : List Nat) (hl8 : ∀ x ∈ l, x < 256) (hl : l.length = 34) (A : Option Addr) (c : Nat) (w : World) (hr : Rd w A (nv8 l)) (hc : 34 ≤ c) :
    Calls Try.prog 6 #[.slice A 34 c] w fun e w' => e = .returned (.bool true) ∧ Below w.heap.size w w' := by
  have HR := Lib.hid (read_34 l hl8 hl A c w hr hc)
  have HF := Lib.hid (fun W (hW : Below w.heap.size w W) => refRead_34 l hl8 hl A c W (hr.below hW))
  rw [refV_eq l hl8 hl] at HF
  have hq := fun w => eql_info w 0 0 0 0 0 0 0 0 (fun _ => 0)
  have HP := Lib.hid (Plain_any (rP0 l) (rP1 l) (rP2 l) (rMn l) (rMx l) (rMf l) (rXf l) (rTt l) (rS l))
  have HM := Lib.hid (May_any (nK l 8) (sK l 16))
  rw [refV_eq l hl8 hl] at HM
  have HMm : Hid (mayN (nK l 8) = rMay l) := by
    obtain ⟨h0, h1, h2, h3, h4, h5, h6, h7⟩ := nK_8 l hl8 hl
    show _ = _
    unfold mayN
    rw [h0, h1, h2, h3, h4, h5, h6, h7]; rfl
  rw [HMm.out] at HM
  have HE := Lib.hid (fun W => eql_ref W (rP0 l) (rP1 l) (rP2 l) (rMn l) (rMx l) (rMf l) (rXf l) (rTt l) (rS l))
  clear hr hl hl8 HMm
  change Hid (∀ W, Calls Try.prog 17 #[.agg (rV l)] W fun e w' => e = .returned (.agg (rV l)) ∧ Below W.heap.size W w') at HP
  change Hid (∀ W, (binOp .eql 46 (.agg (rV l)) (.agg (rV l))).run Try.prog W = .ok (.bool true) W) at HE
  have H1 : Hid ((rV l).all (·.oneCell') = true) := ofV_one _ _ _ _ _ _ _ _ _
  have Hsz : Hid ((rV l).size = 24) := rfl
  have HRt : Hid (readV true l = .tuple #[.agg (rV l), .int .i64 0]) := rfl
  have HRf : Hid (readV false l = .tuple #[.agg #[.int .i64 0, .int .i64 0, .int .i64 0, .int .i64 0, .int .i64 0, .int .i64 0, .int .i64 0, .int .i64 0, .int .u8 0, .int .u8 0, .int .u8 0, .int .u8 0, .int .u8 0, .int .u8 0, .int .u8 0, .int .u8 0, .int .u8 0, .int .u8 0, .int .u8 0, .int .u8 0, .int .u8 0, .int .u8 0, .int .u8 0, .int .u8 0], .int .i64 10]) := rfl
  cases hm : rMay l with
  | false =>
    rw [hm] at HR HM
    rw [HRf.out] at HR
    clear hm HRf HRt HE HP
    generalize rV l = V at *
    simp only [ofV] at hq
    go_enter Try.func6, Try.ntmps6
    go_wp2_with fail
    refine (HR.out).mono ?_
    rintro e w1 ⟨rfl, hb1⟩
    have hb : Below w.heap.size w w1 := by repeat (first | exact Below.refl _ _ | assumption | refine below_drewN ?_ _ | refine Below.drew ?_ | refine Below.alloc ?_ (Nat.le_refl _) _ | refine bal ?_ _ | refine bnext ?_ (by assumption))
    clear hb1
    have Hst := Lib.hid (fun W (hW : Below w.heap.size w W) => HF.out W hW)
    clear HF HR
    go_wp2_with (first | (refine wpList_store_new rfl 34 _ _ rfl _ rfl rfl rfl (by kernel_rfl) (by rfl) (ofV_one 0 0 0 0 0 0 0 0 (fun _ => 0)) ?_; intro w3 hw3))
    have hb3 : Below w.heap.size w w3 := by rw [← hw3]; exact bal hb _
    have hI : w3.heap[w1.heap.size]? = some (.cells #[.int .i64 0, .int .i64 0, .int .i64 0, .int .i64 0, .int .i64 0, .int .i64 0, .int .i64 0, .int .i64 0, .int .u8 0, .int .u8 0, .int .u8 0, .int .u8 0, .int .u8 0, .int .u8 0, .int .u8 0, .int .u8 0, .int .u8 0, .int .u8 0, .int .u8 0, .int .u8 0, .int .u8 0, .int .u8 0, .int .u8 0, .int .u8 0] 34 (0, 0)) := hw3 ▸ heap_alloc_last w1 _
    have HI := Lib.hid hI
    clear hI hw3
    refine (Hst.out _ hb3).mono ?_
    rintro e w4 ⟨rfl, hb4⟩
    have HI4 : Hid (w4.heap[w1.heap.size]? = some (.cells #[.int .i64 0, .int .i64 0, .int .i64 0, .int .i64 0, .int .i64 0, .int .i64 0, .int .i64 0, .int .i64 0, .int .u8 0, .int .u8 0, .int .u8 0, .int .u8 0, .int .u8 0, .int .u8 0, .int .u8 0, .int .u8 0, .int .u8 0, .int .u8 0, .int .u8 0, .int .u8 0, .int .u8 0, .int .u8 0, .int .u8 0, .int .u8 0] 34 (0, 0))) := hrow_below HI.out hb4
    have hb5 := bnext hb3 hb4
    clear hb4 HI Hst
    go_upto_region 9 with (first | (refine wpList_store_new rfl 46 _ _ rfl _ rfl rfl rfl (by rw [Hsz.out]; kernel_rfl) (by rw [Hsz.out]; rfl) H1.out ?_; intro w6 hw6))
    have hb6 : Below w.heap.size w w6 := by rw [← hw6]; exact bal hb5 _
    have HI6 : Hid (w6.heap[w1.heap.size]? = some (.cells #[.int .i64 0, .int .i64 0, .int .i64 0, .int .i64 0, .int .i64 0, .int .i64 0, .int .i64 0, .int .i64 0, .int .u8 0, .int .u8 0, .int .u8 0, .int .u8 0, .int .u8 0, .int .u8 0, .int .u8 0, .int .u8 0, .int .u8 0, .int .u8 0, .int .u8 0, .int .u8 0, .int .u8 0, .int .u8 0, .int .u8 0, .int .u8 0] 34 (0, 0))) := by show _ = _; rw [← hw6]; exact hrow_alloc HI4.out _
    have HV6 : Hid (w6.heap[w4.heap.size]? = some (.cells V 46 (0, 0))) := by show _ = _; rw [← hw6]; exact heap_alloc_last w4 _
    clear hw6 HI4 hb5
    go_wp2_with (first | (refine wpList_load_row_g (by rfl) 46 _ rfl w4.heap.size rfl 46 V (0, 0) _ HV6.out Try.underlying46 rfl (by rw [Hsz.out]; kernel_rfl) ?_))
    refine (HM.out _).mono ?_
    rintro e w7 ⟨rfl, hb7⟩
    have HI7 : Hid (w7.heap[w1.heap.size]? = some (.cells #[.int .i64 0, .int .i64 0, .int .i64 0, .int .i64 0, .int .i64 0, .int .i64 0, .int .i64 0, .int .i64 0, .int .u8 0, .int .u8 0, .int .u8 0, .int .u8 0, .int .u8 0, .int .u8 0, .int .u8 0, .int .u8 0, .int .u8 0, .int .u8 0, .int .u8 0, .int .u8 0, .int .u8 0, .int .u8 0, .int .u8 0, .int .u8 0] 34 (0, 0))) := hrow_below HI6.out hb7
    have hb8 := bnext hb6 hb7
    clear hb7 HI6 HV6 HM
    go_wp2_with (first | (refine wpList_load_row_g (by rfl) 34 _ rfl w1.heap.size rfl 34 #[.int .i64 0, .int .i64 0, .int .i64 0, .int .i64 0, .int .i64 0, .int .i64 0, .int .i64 0, .int .i64 0, .int .u8 0, .int .u8 0, .int .u8 0, .int .u8 0, .int .u8 0, .int .u8 0, .int .u8 0, .int .u8 0, .int .u8 0, .int .u8 0, .int .u8 0, .int .u8 0, .int .u8 0, .int .u8 0, .int .u8 0, .int .u8 0] (0, 0) _ HI7.out Try.underlying34 rfl (by kernel_rfl) ?_))
    refine (awake_any _).mono ?_
    rintro e w9 ⟨rfl, hb9⟩
    go_wp2_with fail
    go_ret
    exact ⟨rfl, bnext hb8 hb9⟩
  | true =>
    rw [hm] at HR HM
    rw [HRt.out] at HR
    clear hm HRf HRt hq
    generalize rV l = V at *
    go_enter Try.func6, Try.ntmps6
    go_wp2_with fail
    refine (HR.out).mono ?_
    rintro e w1 ⟨rfl, hb1⟩
    have hb : Below w.heap.size w w1 := by repeat (first | exact Below.refl _ _ | assumption | refine below_drewN ?_ _ | refine Below.drew ?_ | refine Below.alloc ?_ (Nat.le_refl _) _ | refine bal ?_ _ | refine bnext ?_ (by assumption))
    clear hb1
    have Hst := Lib.hid (fun W (hW : Below w.heap.size w W) => HF.out W hW)
    clear HF HR
    go_wp2_with (first | (refine wpList_store_new rfl 34 _ _ rfl _ rfl rfl rfl (by rw [Hsz.out]; kernel_rfl) (by rw [Hsz.out]; rfl) H1.out ?_; intro w3 hw3))
    have hb3 : Below w.heap.size w w3 := by rw [← hw3]; exact bal hb _
    have hI : w3.heap[w1.heap.size]? = some (.cells V 34 (0, 0)) := hw3 ▸ heap_alloc_last w1 _
    have HI := Lib.hid hI
    clear hI hw3
    refine (Hst.out _ hb3).mono ?_
    rintro e w4 ⟨rfl, hb4⟩
    have HI4 : Hid (w4.heap[w1.heap.size]? = some (.cells V 34 (0, 0))) := hrow_below HI.out hb4
    have hb5 := bnext hb3 hb4
    clear hb4 HI Hst
    go_upto_region 9 with (first | (refine wpList_store_new rfl 46 _ _ rfl _ rfl rfl rfl (by rw [Hsz.out]; kernel_rfl) (by rw [Hsz.out]; rfl) H1.out ?_; intro w6 hw6))
    have hb6 : Below w.heap.size w w6 := by rw [← hw6]; exact bal hb5 _
    have HI6 : Hid (w6.heap[w1.heap.size]? = some (.cells V 34 (0, 0))) := by show _ = _; rw [← hw6]; exact hrow_alloc HI4.out _
    have HV6 : Hid (w6.heap[w4.heap.size]? = some (.cells V 46 (0, 0))) := by show _ = _; rw [← hw6]; exact heap_alloc_last w4 _
    clear hw6 HI4 hb5
    go_wp2_with (first | (refine wpList_load_row_g (by rfl) 46 _ rfl w4.heap.size rfl 46 V (0, 0) _ HV6.out Try.underlying46 rfl (by rw [Hsz.out]; kernel_rfl) ?_))
    refine (HM.out _).mono ?_
    rintro e w7 ⟨rfl, hb7⟩
    have HI7 : Hid (∀ W, Below w7.heap.size w7 W → W.heap[w1.heap.size]? = some (.cells V 34 (0, 0))) := fun W hW => hrow_below (hrow_below HI6.out hb7) hW
    have HV7 : Hid (∀ W, Below w7.heap.size w7 W → W.heap[w4.heap.size]? = some (.cells V 46 (0, 0))) := fun W hW => hrow_below (hrow_below HV6.out hb7) hW
    have hb8 := bnext hb6 hb7
    clear hb7 HI6 HV6 HM hb6 hb3 hb
    go_wp2_with fail
    refine wp_region_specs [
      Spec.val ((.int .i64 0)),
      Spec.val (.bool true),
      Spec.val (.bool true),
      Spec.val (.agg V),
      Spec.val (.agg V),
      Spec.val (.agg V),
      Spec.val (.bool true),
      Spec.val (.bool true),
      Spec.val (.bool true),
      Spec.val (.bool true),
      Spec.val (.bool true),
      Spec.val (.bool true)] w7 (by kernel_rfl) (by repeat (first | exact Below.refl _ _ | assumption | refine below_drewN ?_ _ | refine Below.drew ?_ | refine Below.alloc ?_ (Nat.le_refl _) _ | refine bal ?_ _ | refine bnext ?_ (by assumption))) (n := 67) rfl (by decide +kernel) ⟨?_, ?_, ?_, ?_, ?_, ?_, ?_, ?_, ?_, ?_, ?_, ?_, trivial⟩ ?_
    · intro ac wd hJ hfr hdep
      have s4 : ac.tmps.getD 4 undef = (.int .i64 0) := (hfr 4 (by decide)).trans rfl
      have s4' := slot' s4
      clear hfr hdep
      refine if_wanted rfl (fun Q => op_any (fun K hK => ?_))
      go_simp
      exact hK _ _ rfl hJ (Below.refl _ _)
    · intro ac wd hJ hfr hdep
      have s56 : ac.tmps.getD 56 undef = (.int .i64 0) := hdep 0 _ 56 (by decide) rfl rfl
      have s56' := slot' s56
      clear hfr hdep
      refine if_wanted rfl (fun Q => op_any (fun K hK => ?_))
      go_simp
      exact hK _ _ rfl hJ (Below.refl _ _)
    · intro ac wd hJ hfr hdep
      have s57 : ac.tmps.getD 57 undef = .bool true := hdep 1 _ 57 (by decide) rfl rfl
      have s57' := slot' s57
      clear hfr hdep
      refine if_wanted rfl (fun Q => op_any (fun K hK => ?_))
      go_simp
      exact hK _ _ rfl hJ (Below.refl _ _)
    · intro ac wd hJ hfr hdep
      have sg : ac.tmps.getD 58 undef = .bool true := hdep 2 _ 58 (by decide) rfl rfl
      have s3 : ac.tmps.getD 3 undef = .pointer (some ⟨w1.heap.size, 0, none⟩) := (hfr 3 (by decide)).trans rfl
      have s3' := slot' s3
      clear hfr hdep
      refine if_wanted (wanted_yes rfl rfl rfl sg) (fun Q => op_any (fun K hK => ?_))
      exact wp_load_row 34 _ rfl w1.heap.size s3 34 _ (0, 0) _ (HI7.out wd hJ) Try.underlying34 rfl (by rw [Hsz.out]; kernel_rfl) (hK _ _ rfl hJ (Below.refl _ _))
    · intro ac wd hJ hfr hdep
      have sg : ac.tmps.getD 58 undef = .bool true := hdep 2 _ 58 (by decide) rfl rfl
      have s59 : ac.tmps.getD 59 undef = .agg V := hdep 3 _ 59 (by decide) rfl rfl
      have s59' := slot' s59
      clear hfr hdep
      refine if_wanted (wanted_yes rfl rfl rfl sg) (fun Q => op_any (fun K hK => ?_))
      go_simp
      refine (HP.out _).mono ?_
      rintro e w1 ⟨rfl, hb1⟩
      exact hK _ _ rfl (bnext hJ hb1) hb1
    · intro ac wd hJ hfr hdep
      have sg : ac.tmps.getD 58 undef = .bool true := hdep 2 _ 58 (by decide) rfl rfl
      have s5 : ac.tmps.getD 5 undef = .pointer (some ⟨w4.heap.size, 0, none⟩) := (hfr 5 (by decide)).trans rfl
      have s5' := slot' s5
      clear hfr hdep
      refine if_wanted (wanted_yes rfl rfl rfl sg) (fun Q => op_any (fun K hK => ?_))
      exact wp_load_row 46 _ rfl w4.heap.size s5 46 _ (0, 0) _ (HV7.out wd hJ) Try.underlying46 rfl (by rw [Hsz.out]; kernel_rfl) (hK _ _ rfl hJ (Below.refl _ _))
    · intro ac wd hJ hfr hdep
      have sg : ac.tmps.getD 58 undef = .bool true := hdep 2 _ 58 (by decide) rfl rfl
      have s60 : ac.tmps.getD 60 undef = .agg V := hdep 4 _ 60 (by decide) rfl rfl
      have s61 : ac.tmps.getD 61 undef = .agg V := hdep 5 _ 61 (by decide) rfl rfl
      have s60' := slot' s60
      have s61' := slot' s61
      clear hfr hdep
      refine if_wanted (wanted_yes rfl rfl rfl sg) (fun Q => op_any (fun K hK => ?_))
      exact wp_bin .eql 46 _ _ _ rfl s60 s61 (by kernel_rfl) (HE.out wd) (hK _ _ rfl hJ (Below.refl _ _))
    · intro ac wd hJ hfr hdep
      have s58 : ac.tmps.getD 58 undef = .bool true := hdep 2 _ 58 (by decide) rfl rfl
      have s62 : ac.tmps.getD 62 undef = .bool true := hdep 6 _ 62 (by decide) rfl rfl
      have s58' := slot' s58
      have s62' := slot' s62
      clear hfr hdep
      refine if_wanted rfl (fun Q => op_any (fun K hK => ?_))
      go_simp
      exact hK _ _ rfl hJ (Below.refl _ _)
    · intro ac wd hJ hfr hdep
      have s63 : ac.tmps.getD 63 undef = .bool true := hdep 7 _ 63 (by decide) rfl rfl
      have s63' := slot' s63
      clear hfr hdep
      refine if_wanted rfl (fun Q => op_any (fun K hK => ?_))
      go_simp
      exact hK _ _ rfl hJ (Below.refl _ _)
    · intro ac wd hJ hfr hdep
      have sg : ac.tmps.getD 64 undef = .bool true := hdep 8 _ 64 (by decide) rfl rfl
      clear hfr hdep
      refine if_wanted (wanted_yes rfl rfl rfl sg) (fun Q => op_any (fun K hK => ?_))
      go_simp
      refine (awake_any _).mono ?_
      rintro e w1 ⟨rfl, hb1⟩
      exact hK _ _ rfl (bnext hJ hb1) hb1
    · intro ac wd hJ hfr hdep
      have s64 : ac.tmps.getD 64 undef = .bool true := hdep 8 _ 64 (by decide) rfl rfl
      have s65 : ac.tmps.getD 65 undef = .bool true := hdep 9 _ 65 (by decide) rfl rfl
      have s64' := slot' s64
      have s65' := slot' s65
      clear hfr hdep
      refine if_wanted rfl (fun Q => op_any (fun K hK => ?_))
      go_simp
      exact hK _ _ rfl hJ (Below.refl _ _)
    · intro ac wd hJ hfr hdep
      have s66 : ac.tmps.getD 66 undef = .bool true := hdep 10 _ 66 (by decide) rfl rfl
      have s66' := slot' s66
      clear hfr hdep
      refine if_wanted rfl (fun Q => op_any (fun K hK => ?_))
      go_simp
      exact hK _ _ rfl hJ (Below.refl _ _)
    intro f w' hJ hR
    have e0 : f 0 = (.int .i64 0) := hR 0 (by decide)
    have e1 : f 1 = .bool true := hR 1 (by decide)
    have e2 : f 2 = .bool true := hR 2 (by decide)
    have e3 : f 3 = .agg V := hR 3 (by decide)
    have e4 : f 4 = .agg V := hR 4 (by decide)
    have e5 : f 5 = .agg V := hR 5 (by decide)
    have e6 : f 6 = .bool true := hR 6 (by decide)
    have e7 : f 7 = .bool true := hR 7 (by decide)
    have e8 : f 8 = .bool true := hR 8 (by decide)
    have e9 : f 9 = .bool true := hR 9 (by decide)
    have e10 : f 10 = .bool true := hR 10 (by decide)
    have e11 : f 11 = .bool true := hR 11 (by decide)
    clear hR
    simp only [finA, Act.put, List.setIfInBounds_toArray, List.set_cons_succ, List.set_cons_zero, Nat.reduceAdd, e0, e1, e2, e3, e4, e5, e6, e7, e8, e9, e10, e11]
    clear e0 e1 e2 e3 e4 e5 e6 e7 e8 e9 e10 e11
    have hend : Below w.heap.size w w' := bnext hb8 hJ
    go_wp2_with fail
    go_ret
    exact ⟨rfl, hend⟩
end Go.Proofs.Ytikgpohoggpldaa
