/-
  header: codes, Check.
-/
import Derived.Test.YtgohfbfdhdepnaaDoorHb3
set_option linter.unusedSimpArgs false
set_option linter.unusedVariables false
namespace Go.Proofs.YtgohfbfdhdepnaaDoor
open Go.RowKit

/-- A header lies in the block B. -/
def HdAt (w : World) (B : Nat) (h : Hd) : Prop := w.heap[B]? = some (.cells h.cells 23 (0, 0))
theorem HdAt.below {w w' : World} {B : Nat} {h : Hd} (k : HdAt w B h) (hb : Below w.heap.size w w') : HdAt w' B h := (hb.block B (Array.getElem?_eq_some_iff.1 k).1).trans k
theorem HdAt.c {w : World} {B : Nat} {h : Hd} (k : HdAt w B h) (i : Nat) (v : Value) (e : h.cells[i]? = some v) : w.cell? ⟨B, i, none⟩ = some v := by rw [cell_of_row _ _ _ _ _ _ k]; exact e
theorem rd_row {W : World} {g : Nat} {arr : Array Value} {E : TypeId} (h : W.heap[g]? = some (.cells arr E (0, 0))) (xs : List Value) (he : arr.toList = xs) : Rd W (some ⟨g, 0, none⟩) xs := by
  intro j u hu
  refine ⟨g, 0, rfl, ?_⟩
  rw [Nat.zero_add, cell_of_row _ _ _ _ _ _ h, ← Array.getElem?_toList, he]
  exact hu

def codE (h : Hd) : Int := fstE [if (ofT blkL h.bc == -1 || ofT ratL h.rc == -1) then (13 : Int) else 0, chE h.m, if (ofT depL h.dc == -1) then (13 : Int) else 0]
set_option maxRecDepth 100000 in
set_option maxHeartbeats 4000000 in
theorem codes_any (h : Hd) (w : World) (ht : HTabs w) :
    Calls Tryd.prog 32 #[h.val] w fun e w' => e = .returned (.int .i64 (codE h)) ∧ Below w.heap.size w w' := by
  obtain ⟨V, bc, rc, m, dc, n, b, r, d⟩ := h
  simp only [codE]
  have HC := Lib.hid (fun W => Channels_any m W)
  have HOb : Hid (∀ W, Below w.heap.size w W → Calls Tryd.prog 58 #[.slice (some ⟨0, 0, none⟩) 16 16, .int .i64 bc] W fun e w' => e = .returned (.int .i64 (ofT blkL bc)) ∧ w' = W) := fun W hb => of_any blkL _ 16 bc W (rd_tab blkL (ht.below hb).blk)
  have HOr : Hid (∀ W, Below w.heap.size w W → Calls Tryd.prog 58 #[.slice (some ⟨1, 0, none⟩) 16 16, .int .i64 rc] W fun e w' => e = .returned (.int .i64 (ofT ratL rc)) ∧ w' = W) := fun W hb => of_any ratL _ 16 rc W (rd_tab ratL (ht.below hb).rat)
  have HOd : Hid (∀ W, Below w.heap.size w W → Calls Tryd.prog 58 #[.slice (some ⟨2, 0, none⟩) 8 8, .int .i64 dc] W fun e w' => e = .returned (.int .i64 (ofT depL dc)) ∧ w' = W) := fun W hb => of_any depL _ 8 dc W (rd_tab depL (ht.below hb).dep)
  generalize ofT blkL bc = xb at *
  generalize ofT ratL rc = xr at *
  generalize ofT depL dc = xd at *
  generalize chE m = xe at *
  have HWd : Hid (∀ W, Calls Tryd.prog 34 #[.bool (xd == -1), .int .i64 13] W fun e w' => e = .returned (.int .i64 (if (xd == -1) then (13 : Int) else 0)) ∧ w' = W) := fun W => wrong_any _ _ W
  by_cases hxb : xb = -1
  · subst hxb
    have HWa : Hid (∀ W, Calls Tryd.prog 34 #[.bool true, .int .i64 13] W fun e w' => e = .returned (.int .i64 (if ((-1 : Int) == -1 || xr == -1) then (13 : Int) else 0)) ∧ w' = W) := fun W => wrong_any true 13 W
    generalize (if ((-1 : Int) == -1 || xr == -1) then (13 : Int) else 0) = ya at *
    generalize (if (xd == -1) then (13 : Int) else 0) = yd at *
    have HFi : Hid (∀ (g : Nat) W, W.heap[g]? = some (.cells #[.int .i64 ya, .int .i64 xe, .int .i64 yd] 24 (0, 0)) → Calls Tryd.prog 33 #[.slice (some ⟨g, 0, none⟩) 3 3] W fun e w' => e = .returned (.int .i64 (fstE [ya, xe, yd])) ∧ w' = W) := fun g W hg => first_any [ya, xe, yd] _ 3 W (rd_row hg _ rfl) (by show 3 ≤ 100; omega)
    generalize fstE [ya, xe, yd] = z at *
    clear ht
    have xb' : True := trivial
    go_enter Tryd.func32, Tryd.ntmps32
    simp only [Hd.val]
    go_wp2_with fail
    refine (HC.out _).mono ?_
    rintro e w1 ⟨rfl, rfl⟩
    go_wp2_with fail
    have HB : Hid (HdAt (w.alloc (.cells (Hd.mk V bc rc m dc n b r d).cells 23)) w.heap.size ⟨V, bc, rc, m, dc, n, b, r, d⟩) := heap_alloc_last w _
    have Hb1 : Hid (Below w.heap.size w (w.alloc (.cells (Hd.mk V bc rc m dc n b r d).cells 23))) := bal (Below.refl _ _) _
    simp only [Hd.cells] at HB Hb1
    generalize w.alloc (.cells #[.bool V, .int .i64 bc, .int .i64 rc, .int .i64 m, .int .i64 dc, .int .i64 n, .int .i64 b, .int .i64 r, .int .i64 d] 23) = w1 at *
    obtain ⟨B0, hB0⟩ : ∃ B0, w.heap.size = B0 := ⟨_, rfl⟩
    rw [hB0] at HB ⊢
    refine wp_region_specs [
      Spec.val (.slice (some ⟨0, 0, none⟩) 16 16),
      Spec.val (.pointer (some ⟨B0, 1, none⟩)),
      Spec.val (.int .i64 bc),
      Spec.val (.int .i64 (-1)),
      Spec.val (.bool true),
      Spec.val (.bool true),
      Spec.val (undef),
      Spec.val (undef),
      Spec.val (undef),
      Spec.val (undef),
      Spec.val (undef),
      Spec.val ((Value.bool true)),
      Spec.val (.int .i64 ya),
      Spec.val (.int .i64 xe),
      Spec.val (.slice (some ⟨2, 0, none⟩) 8 8),
      Spec.val (.pointer (some ⟨B0, 4, none⟩)),
      Spec.val (.int .i64 dc),
      Spec.val (.int .i64 xd),
      Spec.val (.bool (xd == -1)),
      Spec.val (.int .i64 yd),
      Spec.row #[.int .i64 ya, .int .i64 xe, .int .i64 yd] 24 3,
      Spec.val (.int .i64 z),
      Spec.val (.int .i64 z)] w1 (by kernel_rfl) (by repeat (first | exact Below.refl _ _ | assumption | refine below_drewN ?_ _ | refine Below.drew ?_ | refine Below.alloc ?_ (Nat.le_refl _) _ | refine bal ?_ _ | refine bnext ?_ (by assumption))) (n := 33) rfl (by decide +kernel) ⟨?_, ?_, ?_, ?_, ?_, ?_, ?_, ?_, ?_, ?_, ?_, ?_, ?_, ?_, ?_, ?_, ?_, ?_, ?_, ?_, ?_, ?_, ?_, trivial⟩ ?_
    · intro ac wd hJ hfr hdep
      skip
      clear hfr hdep
      refine if_wanted rfl (fun Q => op_any (fun K hK => ?_))
      go_simp
      exact hK _ _ rfl hJ (Below.refl _ _)
    · intro ac wd hJ hfr hdep
      have s1 : ac.tmps.getD 1 undef = .pointer (some ⟨B0, 0, none⟩) := (hfr 1 (by decide)).trans rfl
      have s1' := slot' s1
      clear hfr hdep
      refine if_wanted rfl (fun Q => op_any (fun K hK => ?_))
      go_simp
      exact hK _ _ rfl hJ (Below.refl _ _)
    · intro ac wd hJ hfr hdep
      have s12 : ac.tmps.getD 12 undef = .pointer (some ⟨B0, 1, none⟩) := hdep 1 _ 12 (by decide) rfl rfl
      have s12' := slot' s12
      clear hfr hdep
      refine if_wanted rfl (fun Q => op_any (fun K hK => ?_))
      have hq := (HB.out.below hJ).c 1 _ rfl
      go_simp
      exact hK _ _ rfl hJ (Below.refl _ _)
    · intro ac wd hJ hfr hdep
      have s11 : ac.tmps.getD 11 undef = .slice (some ⟨0, 0, none⟩) 16 16 := hdep 0 _ 11 (by decide) rfl rfl
      have s13 : ac.tmps.getD 13 undef = .int .i64 bc := hdep 2 _ 13 (by decide) rfl rfl
      have s11' := slot' s11
      have s13' := slot' s13
      clear hfr hdep
      refine if_wanted rfl (fun Q => op_any (fun K hK => ?_))
      go_simp
      refine (HOb.out _ (bnext Hb1.out hJ)).mono ?_
      rintro e wz ⟨rfl, rfl⟩
      exact hK _ _ rfl hJ (Below.refl _ _)
    · intro ac wd hJ hfr hdep
      have s14 : ac.tmps.getD 14 undef = .int .i64 (-1) := hdep 3 _ 14 (by decide) rfl rfl
      have s14' := slot' s14
      clear hfr hdep
      refine if_wanted rfl (fun Q => op_any (fun K hK => ?_))
      go_simp
      exact hK _ _ rfl hJ (Below.refl _ _)
    · intro ac wd hJ hfr hdep
      have s15 : ac.tmps.getD 15 undef = .bool true := hdep 4 _ 15 (by decide) rfl rfl
      have s15' := slot' s15
      clear hfr hdep
      refine if_wanted rfl (fun Q => op_any (fun K hK => ?_))
      go_simp
      exact hK _ _ rfl hJ (Below.refl _ _)
    · intro ac wd hJ hfr hdep
      have sg : ac.tmps.getD 16 undef = .bool true := hdep 5 _ 16 (by decide) rfl rfl
      exact if_unwanted (wanted_no rfl rfl rfl sg (by decide)) rfl
    · intro ac wd hJ hfr hdep
      have sg : ac.tmps.getD 16 undef = .bool true := hdep 5 _ 16 (by decide) rfl rfl
      exact if_unwanted (wanted_no rfl rfl rfl sg (by decide)) rfl
    · intro ac wd hJ hfr hdep
      have sg : ac.tmps.getD 16 undef = .bool true := hdep 5 _ 16 (by decide) rfl rfl
      exact if_unwanted (wanted_no rfl rfl rfl sg (by decide)) rfl
    · intro ac wd hJ hfr hdep
      have sg : ac.tmps.getD 16 undef = .bool true := hdep 5 _ 16 (by decide) rfl rfl
      exact if_unwanted (wanted_no rfl rfl rfl sg (by decide)) rfl
    · intro ac wd hJ hfr hdep
      have sg : ac.tmps.getD 16 undef = .bool true := hdep 5 _ 16 (by decide) rfl rfl
      exact if_unwanted (wanted_no rfl rfl rfl sg (by decide)) rfl
    · intro ac wd hJ hfr hdep
      have s16 : ac.tmps.getD 16 undef = .bool true := hdep 5 _ 16 (by decide) rfl rfl
      have s21 : ac.tmps.getD 21 undef = undef := hdep 10 _ 21 (by decide) rfl rfl
      have s16' := slot' s16
      have s21' := slot' s21
      clear hfr hdep
      refine if_wanted rfl (fun Q => op_any (fun K hK => ?_))
      go_simp
      exact hK _ _ rfl hJ (Below.refl _ _)
    · intro ac wd hJ hfr hdep
      have s22 : ac.tmps.getD 22 undef = (Value.bool true) := hdep 11 _ 22 (by decide) rfl rfl
      have s22' := slot' s22
      clear hfr hdep
      refine if_wanted rfl (fun Q => op_any (fun K hK => ?_))
      go_simp
      refine (HWa.out _).mono ?_
      rintro e wz ⟨rfl, rfl⟩
      exact hK _ _ rfl hJ (Below.refl _ _)
    · intro ac wd hJ hfr hdep
      have s4 : ac.tmps.getD 4 undef = .int .i64 xe := (hfr 4 (by decide)).trans rfl
      have s4' := slot' s4
      clear hfr hdep
      refine if_wanted rfl (fun Q => op_any (fun K hK => ?_))
      go_simp
      exact hK _ _ rfl hJ (Below.refl _ _)
    · intro ac wd hJ hfr hdep
      skip
      clear hfr hdep
      refine if_wanted rfl (fun Q => op_any (fun K hK => ?_))
      go_simp
      exact hK _ _ rfl hJ (Below.refl _ _)
    · intro ac wd hJ hfr hdep
      have s1 : ac.tmps.getD 1 undef = .pointer (some ⟨B0, 0, none⟩) := (hfr 1 (by decide)).trans rfl
      have s1' := slot' s1
      clear hfr hdep
      refine if_wanted rfl (fun Q => op_any (fun K hK => ?_))
      go_simp
      exact hK _ _ rfl hJ (Below.refl _ _)
    · intro ac wd hJ hfr hdep
      have s26 : ac.tmps.getD 26 undef = .pointer (some ⟨B0, 4, none⟩) := hdep 15 _ 26 (by decide) rfl rfl
      have s26' := slot' s26
      clear hfr hdep
      refine if_wanted rfl (fun Q => op_any (fun K hK => ?_))
      have hq := (HB.out.below hJ).c 4 _ rfl
      go_simp
      exact hK _ _ rfl hJ (Below.refl _ _)
    · intro ac wd hJ hfr hdep
      have s25 : ac.tmps.getD 25 undef = .slice (some ⟨2, 0, none⟩) 8 8 := hdep 14 _ 25 (by decide) rfl rfl
      have s27 : ac.tmps.getD 27 undef = .int .i64 dc := hdep 16 _ 27 (by decide) rfl rfl
      have s25' := slot' s25
      have s27' := slot' s27
      clear hfr hdep
      refine if_wanted rfl (fun Q => op_any (fun K hK => ?_))
      go_simp
      refine (HOd.out _ (bnext Hb1.out hJ)).mono ?_
      rintro e wz ⟨rfl, rfl⟩
      exact hK _ _ rfl hJ (Below.refl _ _)
    · intro ac wd hJ hfr hdep
      have s28 : ac.tmps.getD 28 undef = .int .i64 xd := hdep 17 _ 28 (by decide) rfl rfl
      have s28' := slot' s28
      clear hfr hdep
      refine if_wanted rfl (fun Q => op_any (fun K hK => ?_))
      go_simp
      exact hK _ _ rfl hJ (Below.refl _ _)
    · intro ac wd hJ hfr hdep
      have s29 : ac.tmps.getD 29 undef = .bool (xd == -1) := hdep 18 _ 29 (by decide) rfl rfl
      have s29' := slot' s29
      clear hfr hdep
      refine if_wanted rfl (fun Q => op_any (fun K hK => ?_))
      go_simp
      refine (HWd.out _).mono ?_
      rintro e wz ⟨rfl, rfl⟩
      exact hK _ _ rfl hJ (Below.refl _ _)
    · intro ac wd hJ hfr hdep
      have s23 : ac.tmps.getD 23 undef = .int .i64 ya := hdep 12 _ 23 (by decide) rfl rfl
      have s24 : ac.tmps.getD 24 undef = .int .i64 xe := hdep 13 _ 24 (by decide) rfl rfl
      have s30 : ac.tmps.getD 30 undef = .int .i64 yd := hdep 19 _ 30 (by decide) rfl rfl
      have s23' := slot' s23
      have s24' := slot' s24
      have s30' := slot' s30
      clear hfr hdep
      refine if_wanted rfl (fun Q => op_any (fun K hK => ?_))
      go_simp
      exact hK _ _ ⟨_, rfl, heap_alloc_new wd _⟩ (bal hJ _) (bal (Below.refl _ _) _)
    · intro ac wd hJ hfr hdep
      obtain ⟨g31, s31, b31⟩ := hdep 20 _ 31 (by decide) rfl rfl
      have s31' := slot' s31
      clear hfr hdep
      refine if_wanted rfl (fun Q => op_any (fun K hK => ?_))
      go_simp
      refine (HFi.out g31 _ b31).mono ?_
      rintro e wz ⟨rfl, rfl⟩
      exact hK _ _ rfl hJ (Below.refl _ _)
    · intro ac wd hJ hfr hdep
      have s32 : ac.tmps.getD 32 undef = .int .i64 z := hdep 21 _ 32 (by decide) rfl rfl
      have s32' := slot' s32
      clear hfr hdep
      refine if_wanted rfl (fun Q => op_any (fun K hK => ?_))
      go_simp
      exact hK _ _ rfl hJ (Below.refl _ _)
    intro f w' hJ hR
    have e0 : f 0 = .slice (some ⟨0, 0, none⟩) 16 16 := hR 0 (by decide)
    have e1 : f 1 = .pointer (some ⟨B0, 1, none⟩) := hR 1 (by decide)
    have e2 : f 2 = .int .i64 bc := hR 2 (by decide)
    have e3 : f 3 = .int .i64 (-1) := hR 3 (by decide)
    have e4 : f 4 = .bool true := hR 4 (by decide)
    have e5 : f 5 = .bool true := hR 5 (by decide)
    have e6 : f 6 = undef := hR 6 (by decide)
    have e7 : f 7 = undef := hR 7 (by decide)
    have e8 : f 8 = undef := hR 8 (by decide)
    have e9 : f 9 = undef := hR 9 (by decide)
    have e10 : f 10 = undef := hR 10 (by decide)
    have e11 : f 11 = (Value.bool true) := hR 11 (by decide)
    have e12 : f 12 = .int .i64 ya := hR 12 (by decide)
    have e13 : f 13 = .int .i64 xe := hR 13 (by decide)
    have e14 : f 14 = .slice (some ⟨2, 0, none⟩) 8 8 := hR 14 (by decide)
    have e15 : f 15 = .pointer (some ⟨B0, 4, none⟩) := hR 15 (by decide)
    have e16 : f 16 = .int .i64 dc := hR 16 (by decide)
    have e17 : f 17 = .int .i64 xd := hR 17 (by decide)
    have e18 : f 18 = .bool (xd == -1) := hR 18 (by decide)
    have e19 : f 19 = .int .i64 yd := hR 19 (by decide)
    obtain ⟨g20', e20, b20'⟩ := hR 20 (by decide)
    have e21 : f 21 = .int .i64 z := hR 21 (by decide)
    have e22 : f 22 = .int .i64 z := hR 22 (by decide)
    clear hR
    simp only [finA, Act.put, List.setIfInBounds_toArray, List.set_cons_succ, List.set_cons_zero, Nat.reduceAdd, e0, e1, e2, e3, e4, e5, e6, e7, e8, e9, e10, e11, e12, e13, e14, e15, e16, e17, e18, e19, e20, e21, e22]
    clear e0 e1 e2 e3 e4 e5 e6 e7 e8 e9 e10 e11 e12 e13 e14 e15 e16 e17 e18 e19 e20 e21 e22
    have Hb2 := Lib.hid (bnext Hb1.out hJ)
    go_wp2_with fail
    go_ret
    exact ⟨rfl, Hb2.out⟩
  · have hxb' : (xb == -1) = false := by rw [beq_eq_false_iff_ne]; exact hxb
    have HWa : Hid (∀ W, Calls Tryd.prog 34 #[.bool (xr == -1), .int .i64 13] W fun e w' => e = .returned (.int .i64 (if (xb == -1 || xr == -1) then (13 : Int) else 0)) ∧ w' = W) := by rw [hxb', Bool.false_or]; exact fun W => wrong_any (xr == -1) 13 W
    generalize (if (xb == -1 || xr == -1) then (13 : Int) else 0) = ya at *
    generalize (if (xd == -1) then (13 : Int) else 0) = yd at *
    have HFi : Hid (∀ (g : Nat) W, W.heap[g]? = some (.cells #[.int .i64 ya, .int .i64 xe, .int .i64 yd] 24 (0, 0)) → Calls Tryd.prog 33 #[.slice (some ⟨g, 0, none⟩) 3 3] W fun e w' => e = .returned (.int .i64 (fstE [ya, xe, yd])) ∧ w' = W) := fun g W hg => first_any [ya, xe, yd] _ 3 W (rd_row hg _ rfl) (by show 3 ≤ 100; omega)
    generalize fstE [ya, xe, yd] = z at *
    clear ht hxb
    go_enter Tryd.func32, Tryd.ntmps32
    simp only [Hd.val]
    go_wp2_with fail
    refine (HC.out _).mono ?_
    rintro e w1 ⟨rfl, rfl⟩
    go_wp2_with fail
    have HB : Hid (HdAt (w.alloc (.cells (Hd.mk V bc rc m dc n b r d).cells 23)) w.heap.size ⟨V, bc, rc, m, dc, n, b, r, d⟩) := heap_alloc_last w _
    have Hb1 : Hid (Below w.heap.size w (w.alloc (.cells (Hd.mk V bc rc m dc n b r d).cells 23))) := bal (Below.refl _ _) _
    simp only [Hd.cells] at HB Hb1
    generalize w.alloc (.cells #[.bool V, .int .i64 bc, .int .i64 rc, .int .i64 m, .int .i64 dc, .int .i64 n, .int .i64 b, .int .i64 r, .int .i64 d] 23) = w1 at *
    obtain ⟨B0, hB0⟩ : ∃ B0, w.heap.size = B0 := ⟨_, rfl⟩
    rw [hB0] at HB ⊢
    refine wp_region_specs [
      Spec.val (.slice (some ⟨0, 0, none⟩) 16 16),
      Spec.val (.pointer (some ⟨B0, 1, none⟩)),
      Spec.val (.int .i64 bc),
      Spec.val (.int .i64 xb),
      Spec.val (.bool false),
      Spec.val (.bool false),
      Spec.val (.slice (some ⟨1, 0, none⟩) 16 16),
      Spec.val (.pointer (some ⟨B0, 2, none⟩)),
      Spec.val (.int .i64 rc),
      Spec.val (.int .i64 xr),
      Spec.val (.bool (xr == -1)),
      Spec.val (.bool (xr == -1)),
      Spec.val (.int .i64 ya),
      Spec.val (.int .i64 xe),
      Spec.val (.slice (some ⟨2, 0, none⟩) 8 8),
      Spec.val (.pointer (some ⟨B0, 4, none⟩)),
      Spec.val (.int .i64 dc),
      Spec.val (.int .i64 xd),
      Spec.val (.bool (xd == -1)),
      Spec.val (.int .i64 yd),
      Spec.row #[.int .i64 ya, .int .i64 xe, .int .i64 yd] 24 3,
      Spec.val (.int .i64 z),
      Spec.val (.int .i64 z)] w1 (by kernel_rfl) (by repeat (first | exact Below.refl _ _ | assumption | refine below_drewN ?_ _ | refine Below.drew ?_ | refine Below.alloc ?_ (Nat.le_refl _) _ | refine bal ?_ _ | refine bnext ?_ (by assumption))) (n := 33) rfl (by decide +kernel) ⟨?_, ?_, ?_, ?_, ?_, ?_, ?_, ?_, ?_, ?_, ?_, ?_, ?_, ?_, ?_, ?_, ?_, ?_, ?_, ?_, ?_, ?_, ?_, trivial⟩ ?_
    · intro ac wd hJ hfr hdep
      skip
      clear hfr hdep
      refine if_wanted rfl (fun Q => op_any (fun K hK => ?_))
      go_simp
      exact hK _ _ rfl hJ (Below.refl _ _)
    · intro ac wd hJ hfr hdep
      have s1 : ac.tmps.getD 1 undef = .pointer (some ⟨B0, 0, none⟩) := (hfr 1 (by decide)).trans rfl
      have s1' := slot' s1
      clear hfr hdep
      refine if_wanted rfl (fun Q => op_any (fun K hK => ?_))
      go_simp
      exact hK _ _ rfl hJ (Below.refl _ _)
    · intro ac wd hJ hfr hdep
      have s12 : ac.tmps.getD 12 undef = .pointer (some ⟨B0, 1, none⟩) := hdep 1 _ 12 (by decide) rfl rfl
      have s12' := slot' s12
      clear hfr hdep
      refine if_wanted rfl (fun Q => op_any (fun K hK => ?_))
      have hq := (HB.out.below hJ).c 1 _ rfl
      go_simp
      exact hK _ _ rfl hJ (Below.refl _ _)
    · intro ac wd hJ hfr hdep
      have s11 : ac.tmps.getD 11 undef = .slice (some ⟨0, 0, none⟩) 16 16 := hdep 0 _ 11 (by decide) rfl rfl
      have s13 : ac.tmps.getD 13 undef = .int .i64 bc := hdep 2 _ 13 (by decide) rfl rfl
      have s11' := slot' s11
      have s13' := slot' s13
      clear hfr hdep
      refine if_wanted rfl (fun Q => op_any (fun K hK => ?_))
      go_simp
      refine (HOb.out _ (bnext Hb1.out hJ)).mono ?_
      rintro e wz ⟨rfl, rfl⟩
      exact hK _ _ rfl hJ (Below.refl _ _)
    · intro ac wd hJ hfr hdep
      have s14 : ac.tmps.getD 14 undef = .int .i64 xb := hdep 3 _ 14 (by decide) rfl rfl
      have s14' := slot' s14
      clear hfr hdep
      refine if_wanted rfl (fun Q => op_any (fun K hK => ?_))
      go_simp
      exact hK _ _ rfl hJ (Below.refl _ _)
    · intro ac wd hJ hfr hdep
      have s15 : ac.tmps.getD 15 undef = .bool false := hdep 4 _ 15 (by decide) rfl rfl
      have s15' := slot' s15
      clear hfr hdep
      refine if_wanted rfl (fun Q => op_any (fun K hK => ?_))
      go_simp
      exact hK _ _ rfl hJ (Below.refl _ _)
    · intro ac wd hJ hfr hdep
      have sg : ac.tmps.getD 16 undef = .bool false := hdep 5 _ 16 (by decide) rfl rfl
      clear hfr hdep
      refine if_wanted (wanted_yes rfl rfl rfl sg) (fun Q => op_any (fun K hK => ?_))
      go_simp
      exact hK _ _ rfl hJ (Below.refl _ _)
    · intro ac wd hJ hfr hdep
      have sg : ac.tmps.getD 16 undef = .bool false := hdep 5 _ 16 (by decide) rfl rfl
      have s1 : ac.tmps.getD 1 undef = .pointer (some ⟨B0, 0, none⟩) := (hfr 1 (by decide)).trans rfl
      have s1' := slot' s1
      clear hfr hdep
      refine if_wanted (wanted_yes rfl rfl rfl sg) (fun Q => op_any (fun K hK => ?_))
      go_simp
      exact hK _ _ rfl hJ (Below.refl _ _)
    · intro ac wd hJ hfr hdep
      have sg : ac.tmps.getD 16 undef = .bool false := hdep 5 _ 16 (by decide) rfl rfl
      have s18 : ac.tmps.getD 18 undef = .pointer (some ⟨B0, 2, none⟩) := hdep 7 _ 18 (by decide) rfl rfl
      have s18' := slot' s18
      clear hfr hdep
      refine if_wanted (wanted_yes rfl rfl rfl sg) (fun Q => op_any (fun K hK => ?_))
      have hq := (HB.out.below hJ).c 2 _ rfl
      go_simp
      exact hK _ _ rfl hJ (Below.refl _ _)
    · intro ac wd hJ hfr hdep
      have sg : ac.tmps.getD 16 undef = .bool false := hdep 5 _ 16 (by decide) rfl rfl
      have s17 : ac.tmps.getD 17 undef = .slice (some ⟨1, 0, none⟩) 16 16 := hdep 6 _ 17 (by decide) rfl rfl
      have s19 : ac.tmps.getD 19 undef = .int .i64 rc := hdep 8 _ 19 (by decide) rfl rfl
      have s17' := slot' s17
      have s19' := slot' s19
      clear hfr hdep
      refine if_wanted (wanted_yes rfl rfl rfl sg) (fun Q => op_any (fun K hK => ?_))
      go_simp
      refine (HOr.out _ (bnext Hb1.out hJ)).mono ?_
      rintro e wz ⟨rfl, rfl⟩
      exact hK _ _ rfl hJ (Below.refl _ _)
    · intro ac wd hJ hfr hdep
      have sg : ac.tmps.getD 16 undef = .bool false := hdep 5 _ 16 (by decide) rfl rfl
      have s20 : ac.tmps.getD 20 undef = .int .i64 xr := hdep 9 _ 20 (by decide) rfl rfl
      have s20' := slot' s20
      clear hfr hdep
      refine if_wanted (wanted_yes rfl rfl rfl sg) (fun Q => op_any (fun K hK => ?_))
      go_simp
      exact hK _ _ rfl hJ (Below.refl _ _)
    · intro ac wd hJ hfr hdep
      have s16 : ac.tmps.getD 16 undef = .bool false := hdep 5 _ 16 (by decide) rfl rfl
      have s21 : ac.tmps.getD 21 undef = .bool (xr == -1) := hdep 10 _ 21 (by decide) rfl rfl
      have s16' := slot' s16
      have s21' := slot' s21
      clear hfr hdep
      refine if_wanted rfl (fun Q => op_any (fun K hK => ?_))
      go_simp
      exact hK _ _ rfl hJ (Below.refl _ _)
    · intro ac wd hJ hfr hdep
      have s22 : ac.tmps.getD 22 undef = .bool (xr == -1) := hdep 11 _ 22 (by decide) rfl rfl
      have s22' := slot' s22
      clear hfr hdep
      refine if_wanted rfl (fun Q => op_any (fun K hK => ?_))
      go_simp
      refine (HWa.out _).mono ?_
      rintro e wz ⟨rfl, rfl⟩
      exact hK _ _ rfl hJ (Below.refl _ _)
    · intro ac wd hJ hfr hdep
      have s4 : ac.tmps.getD 4 undef = .int .i64 xe := (hfr 4 (by decide)).trans rfl
      have s4' := slot' s4
      clear hfr hdep
      refine if_wanted rfl (fun Q => op_any (fun K hK => ?_))
      go_simp
      exact hK _ _ rfl hJ (Below.refl _ _)
    · intro ac wd hJ hfr hdep
      skip
      clear hfr hdep
      refine if_wanted rfl (fun Q => op_any (fun K hK => ?_))
      go_simp
      exact hK _ _ rfl hJ (Below.refl _ _)
    · intro ac wd hJ hfr hdep
      have s1 : ac.tmps.getD 1 undef = .pointer (some ⟨B0, 0, none⟩) := (hfr 1 (by decide)).trans rfl
      have s1' := slot' s1
      clear hfr hdep
      refine if_wanted rfl (fun Q => op_any (fun K hK => ?_))
      go_simp
      exact hK _ _ rfl hJ (Below.refl _ _)
    · intro ac wd hJ hfr hdep
      have s26 : ac.tmps.getD 26 undef = .pointer (some ⟨B0, 4, none⟩) := hdep 15 _ 26 (by decide) rfl rfl
      have s26' := slot' s26
      clear hfr hdep
      refine if_wanted rfl (fun Q => op_any (fun K hK => ?_))
      have hq := (HB.out.below hJ).c 4 _ rfl
      go_simp
      exact hK _ _ rfl hJ (Below.refl _ _)
    · intro ac wd hJ hfr hdep
      have s25 : ac.tmps.getD 25 undef = .slice (some ⟨2, 0, none⟩) 8 8 := hdep 14 _ 25 (by decide) rfl rfl
      have s27 : ac.tmps.getD 27 undef = .int .i64 dc := hdep 16 _ 27 (by decide) rfl rfl
      have s25' := slot' s25
      have s27' := slot' s27
      clear hfr hdep
      refine if_wanted rfl (fun Q => op_any (fun K hK => ?_))
      go_simp
      refine (HOd.out _ (bnext Hb1.out hJ)).mono ?_
      rintro e wz ⟨rfl, rfl⟩
      exact hK _ _ rfl hJ (Below.refl _ _)
    · intro ac wd hJ hfr hdep
      have s28 : ac.tmps.getD 28 undef = .int .i64 xd := hdep 17 _ 28 (by decide) rfl rfl
      have s28' := slot' s28
      clear hfr hdep
      refine if_wanted rfl (fun Q => op_any (fun K hK => ?_))
      go_simp
      exact hK _ _ rfl hJ (Below.refl _ _)
    · intro ac wd hJ hfr hdep
      have s29 : ac.tmps.getD 29 undef = .bool (xd == -1) := hdep 18 _ 29 (by decide) rfl rfl
      have s29' := slot' s29
      clear hfr hdep
      refine if_wanted rfl (fun Q => op_any (fun K hK => ?_))
      go_simp
      refine (HWd.out _).mono ?_
      rintro e wz ⟨rfl, rfl⟩
      exact hK _ _ rfl hJ (Below.refl _ _)
    · intro ac wd hJ hfr hdep
      have s23 : ac.tmps.getD 23 undef = .int .i64 ya := hdep 12 _ 23 (by decide) rfl rfl
      have s24 : ac.tmps.getD 24 undef = .int .i64 xe := hdep 13 _ 24 (by decide) rfl rfl
      have s30 : ac.tmps.getD 30 undef = .int .i64 yd := hdep 19 _ 30 (by decide) rfl rfl
      have s23' := slot' s23
      have s24' := slot' s24
      have s30' := slot' s30
      clear hfr hdep
      refine if_wanted rfl (fun Q => op_any (fun K hK => ?_))
      go_simp
      exact hK _ _ ⟨_, rfl, heap_alloc_new wd _⟩ (bal hJ _) (bal (Below.refl _ _) _)
    · intro ac wd hJ hfr hdep
      obtain ⟨g31, s31, b31⟩ := hdep 20 _ 31 (by decide) rfl rfl
      have s31' := slot' s31
      clear hfr hdep
      refine if_wanted rfl (fun Q => op_any (fun K hK => ?_))
      go_simp
      refine (HFi.out g31 _ b31).mono ?_
      rintro e wz ⟨rfl, rfl⟩
      exact hK _ _ rfl hJ (Below.refl _ _)
    · intro ac wd hJ hfr hdep
      have s32 : ac.tmps.getD 32 undef = .int .i64 z := hdep 21 _ 32 (by decide) rfl rfl
      have s32' := slot' s32
      clear hfr hdep
      refine if_wanted rfl (fun Q => op_any (fun K hK => ?_))
      go_simp
      exact hK _ _ rfl hJ (Below.refl _ _)
    intro f w' hJ hR
    have e0 : f 0 = .slice (some ⟨0, 0, none⟩) 16 16 := hR 0 (by decide)
    have e1 : f 1 = .pointer (some ⟨B0, 1, none⟩) := hR 1 (by decide)
    have e2 : f 2 = .int .i64 bc := hR 2 (by decide)
    have e3 : f 3 = .int .i64 xb := hR 3 (by decide)
    have e4 : f 4 = .bool false := hR 4 (by decide)
    have e5 : f 5 = .bool false := hR 5 (by decide)
    have e6 : f 6 = .slice (some ⟨1, 0, none⟩) 16 16 := hR 6 (by decide)
    have e7 : f 7 = .pointer (some ⟨B0, 2, none⟩) := hR 7 (by decide)
    have e8 : f 8 = .int .i64 rc := hR 8 (by decide)
    have e9 : f 9 = .int .i64 xr := hR 9 (by decide)
    have e10 : f 10 = .bool (xr == -1) := hR 10 (by decide)
    have e11 : f 11 = .bool (xr == -1) := hR 11 (by decide)
    have e12 : f 12 = .int .i64 ya := hR 12 (by decide)
    have e13 : f 13 = .int .i64 xe := hR 13 (by decide)
    have e14 : f 14 = .slice (some ⟨2, 0, none⟩) 8 8 := hR 14 (by decide)
    have e15 : f 15 = .pointer (some ⟨B0, 4, none⟩) := hR 15 (by decide)
    have e16 : f 16 = .int .i64 dc := hR 16 (by decide)
    have e17 : f 17 = .int .i64 xd := hR 17 (by decide)
    have e18 : f 18 = .bool (xd == -1) := hR 18 (by decide)
    have e19 : f 19 = .int .i64 yd := hR 19 (by decide)
    obtain ⟨g20', e20, b20'⟩ := hR 20 (by decide)
    have e21 : f 21 = .int .i64 z := hR 21 (by decide)
    have e22 : f 22 = .int .i64 z := hR 22 (by decide)
    clear hR
    simp only [finA, Act.put, List.setIfInBounds_toArray, List.set_cons_succ, List.set_cons_zero, Nat.reduceAdd, e0, e1, e2, e3, e4, e5, e6, e7, e8, e9, e10, e11, e12, e13, e14, e15, e16, e17, e18, e19, e20, e21, e22]
    clear e0 e1 e2 e3 e4 e5 e6 e7 e8 e9 e10 e11 e12 e13 e14 e15 e16 e17 e18 e19 e20 e21 e22
    have Hb2 := Lib.hid (bnext Hb1.out hJ)
    go_wp2_with fail
    go_ret
    exact ⟨rfl, Hb2.out⟩

theorem ofT_in {L : List Int} {c : Int} (h : ofT L c ≠ -1) : 0 ≤ c ∧ c < L.length ∧ ofT L c = L.getD c.toNat 0 := by
  unfold ofT at h ⊢
  split at h
  · exact absurd rfl h
  · rename_i hh
    rw [if_neg hh]
    exact ⟨by omega, by omega, rfl⟩
theorem fstE_three (a b c : Int) (h : fstE [a, b, c] = 0) : a = 0 ∧ b = 0 ∧ c = 0 := by
  by_cases ha : a = 0
  · by_cases hb : b = 0
    · by_cases hc : c = 0
      · exact ⟨ha, hb, hc⟩
      · simp [fstE, ha, hb, hc] at h
    · simp [fstE, ha, hb] at h
  · simp [fstE, ha] at h
theorem fstE_two (a b : Int) (h : fstE [a, b] = 0) : a = 0 ∧ b = 0 := by
  by_cases ha : a = 0
  · by_cases hb : b = 0
    · exact ⟨ha, hb⟩
    · simp [fstE, ha, hb] at h
  · simp [fstE, ha] at h
theorem codE_zero {h : Hd} (e : codE h = 0) : ofT blkL h.bc ≠ -1 ∧ ofT ratL h.rc ≠ -1 ∧ chE h.m = 0 ∧ ofT depL h.dc ≠ -1 := by
  obtain ⟨h1, h2, h3⟩ := fstE_three _ _ _ e
  refine ⟨fun k => ?_, fun k => ?_, h2, fun k => ?_⟩
  · rw [k] at h1; simp at h1
  · rw [k] at h1; simp at h1
  · rw [k] at h3; simp at h3
theorem codE_or (h : Hd) : codE h = 0 ∨ codE h = 13 := by
  have hc : chE h.m = 0 ∨ chE h.m = 13 := by unfold chE; split <;> simp
  have h1 : ∀ p : Bool, (if p then (13 : Int) else 0) = 0 ∨ (if p then (13 : Int) else 0) = 13 := by intro p; cases p <;> simp
  unfold codE
  rcases h1 (ofT blkL h.bc == -1 || ofT ratL h.rc == -1) with e1 | e1 <;> rcases hc with e2 | e2 <;> rcases h1 (ofT depL h.dc == -1) with e3 | e3 <;> rw [e1, e2, e3] <;> simp [fstE]
def chkE (h : Hd) : Int := if codE h = 0 then fstE [if (decide (h.n < 0) || decide (h.n ≥ mostV h.V)) then (10 : Int) else 0, if (!bFits h.bc h.b || !rFits h.rc h.r || h.d != depL.getD h.dc.toNat 0) then (22 : Int) else 0] else codE h
set_option maxRecDepth 100000 in
set_option maxHeartbeats 8000000 in
theorem Check_any (h : Hd) (hr63 : h.r ≤ 9223372036854775807) (w : World) (ht : HTabs w) :
    Calls Tryd.prog 11 #[h.val] w fun e w' => e = .returned (.int .i64 (chkE h)) ∧ Below w.heap.size w w' := by
  have HC := Lib.hid (fun W (hb : Below w.heap.size w W) => codes_any h W (ht.below hb))
  have Hb0 : Hid (Below w.heap.size w (w.alloc (.cells h.cells 23))) := bal (Below.refl _ _) _
  have HB0 : Hid (HdAt (w.alloc (.cells h.cells 23)) w.heap.size h) := heap_alloc_last w _
  by_cases hc : codE h = 0
  case neg =>
    have e : chkE h = codE h := if_neg hc
    rw [e]
    clear e
    have hx : (codE h != 0) = true := by rw [bne_iff_ne]; exact hc
    generalize codE h = xc at *
    obtain ⟨V, bc, rc, m, dc, n, b, r, d⟩ := h
    simp only [Hd.val, Hd.cells] at HC Hb0 HB0 ⊢
    clear hr63
    go_enter Tryd.func11, Tryd.ntmps11
    go_wp2_with fail
    refine (HC.out _ Hb0.out).mono ?_
    rintro e w1 ⟨rfl, hb1⟩
    have hb2 := bnext Hb0.out hb1
    clear HC Hb0 HB0 hc
    go_wp2_with fail
    go_ret
    exact ⟨rfl, hb2⟩
  have e : chkE h = _ := if_pos hc
  rw [e]
  clear e
  obtain ⟨h1, h2, h3, h4⟩ := codE_zero hc
  obtain ⟨a1, a2, a3⟩ := ofT_in h1
  obtain ⟨b1, b2, b3⟩ := ofT_in h2
  obtain ⟨c1, c2, c3⟩ := ofT_in h4
  have a2' : h.bc < 16 := a2
  have b2' : h.rc < 16 := b2
  have c2' : h.dc < 8 := c2
  rw [hc] at HC
  have HBf := Lib.hid (fun W (hb : Below w.heap.size w W) => blockFits_any h a1 a2' W (ht.below hb))
  have HRf := Lib.hid (fun W (hb : Below w.heap.size w W) => rateFits_any h b1 b2' hr63 W (ht.below hb))
  have HDc : Hid (∀ W, Below w.heap.size w W → W.cell? ⟨2, h.dc.toNat, none⟩ = some (.int .i64 (depL.getD h.dc.toNat 0))) := fun W hb => (ht.below hb).dep _ (by omega)
  have HMo := Lib.hid (fun W => most_any h.V W)
  obtain ⟨V, bc, rc, m, dc, n, b, r, d⟩ := h
  simp only at c1 c2' HBf HRf HDc HMo ⊢
  obtain ⟨dn, rfl⟩ : ∃ dn : Nat, dc = dn := ⟨dc.toNat, by omega⟩
  rw [Int.toNat_natCast] at HDc ⊢
  have hdn : dn < 8 := by omega
  generalize depL.getD dn 0 = xd at *
  generalize bFits bc b = xf at *
  generalize rFits rc r = xg at *
  generalize mostV V = xm at *
  clear h1 h2 h3 h4 a1 a2 a3 b1 b2 b3 c1 c2 c3 a2' b2' c2' hc hr63 ht
  simp only [Hd.val, Hd.cells] at HC HBf HRf Hb0 HB0 ⊢
  by_cases hn' : n < 0
  · have hn : decide (n < 0) = true := decide_eq_true hn'
    clear hn'
    cases xf
    · have Hya : Hid (∀ W, Calls Tryd.prog 34 #[.bool true, .int .i64 10] W fun e w' => e = .returned (.int .i64 (if (decide (n < 0) || decide (n ≥ xm)) then (10 : Int) else 0)) ∧ w' = W) := by rw [hn]; exact fun W => wrong_any _ 10 W
      have HWd : Hid (∀ W, Calls Tryd.prog 34 #[.bool true, .int .i64 22] W fun e w' => e = .returned (.int .i64 (if (!false || !xg || d != xd) then (22 : Int) else 0)) ∧ w' = W) := fun W => wrong_any _ 22 W
      have HWa := Hya
      clear Hya
      generalize (if (decide (n < 0) || decide (n ≥ xm)) then (10 : Int) else 0) = ya at *
      generalize (if (!false || !xg || d != xd) then (22 : Int) else 0) = yd at *
      have HFi : Hid (∀ (g : Nat) W, W.heap[g]? = some (.cells #[.int .i64 ya, .int .i64 yd] 24 (0, 0)) → Calls Tryd.prog 33 #[.slice (some ⟨g, 0, none⟩) 2 2] W fun e w' => e = .returned (.int .i64 (fstE [ya, yd])) ∧ w' = W) := fun g W hg => first_any [ya, yd] _ 2 W (rd_row hg _ rfl) (by show 2 ≤ 100; omega)
      generalize fstE [ya, yd] = z at *
      go_enter Tryd.func11, Tryd.ntmps11
      go_wp2_with fail
      refine (HC.out _ Hb0.out).mono ?_
      rintro e w1 ⟨rfl, hb1⟩
      have Hb1 := Lib.hid (bnext Hb0.out hb1)
      have HB : Hid (HdAt w1 w.heap.size ⟨V, bc, rc, m, dn, n, b, r, d⟩) := HB0.out.below hb1
      clear HC Hb0 HB0 hb1
      go_wp2_with fail
      obtain ⟨B0, hB0⟩ : ∃ B0, w.heap.size = B0 := ⟨_, rfl⟩
      rw [hB0] at HB ⊢
      refine wp_region_specs [
        Spec.val (.pointer (some ⟨B0, 5, none⟩)),
        Spec.val (.int .i64 n),
        Spec.val (.bool true),
        Spec.val (.bool true),
        Spec.val (undef),
        Spec.val (undef),
        Spec.val (undef),
        Spec.val (undef),
        Spec.val (undef),
        Spec.val (undef),
        Spec.val ((Value.bool true)),
        Spec.val (.int .i64 ya),
        Spec.val (.agg #[.bool V, .int .i64 bc, .int .i64 rc, .int .i64 m, .int .i64 (dn : Int), .int .i64 n, .int .i64 b, .int .i64 r, .int .i64 d]),
        Spec.val (.bool false),
        Spec.val (.bool true),
        Spec.val (.bool true),
        Spec.val (undef),
        Spec.val (undef),
        Spec.val (undef),
        Spec.val ((Value.bool true)),
        Spec.val ((Value.bool true)),
        Spec.val (undef),
        Spec.val (undef),
        Spec.val (undef),
        Spec.val (undef),
        Spec.val (undef),
        Spec.val (undef),
        Spec.val (undef),
        Spec.val ((Value.bool true)),
        Spec.val (.int .i64 yd),
        Spec.row #[.int .i64 ya, .int .i64 yd] 24 2,
        Spec.val (.int .i64 z),
        Spec.val (.int .i64 z)] w1 (by kernel_rfl) (by repeat (first | exact Below.refl _ _ | assumption | refine below_drewN ?_ _ | refine Below.drew ?_ | refine Below.alloc ?_ (Nat.le_refl _) _ | refine bal ?_ _ | refine bnext ?_ (by assumption))) (n := 41) rfl (by decide +kernel) ⟨?_, ?_, ?_, ?_, ?_, ?_, ?_, ?_, ?_, ?_, ?_, ?_, ?_, ?_, ?_, ?_, ?_, ?_, ?_, ?_, ?_, ?_, ?_, ?_, ?_, ?_, ?_, ?_, ?_, ?_, ?_, ?_, ?_, trivial⟩ ?_
      · intro ac wd hJ hfr hdep
        have s1 : ac.tmps.getD 1 undef = .pointer (some ⟨B0, 0, none⟩) := (hfr 1 (by decide)).trans rfl
        have s1' := slot' s1
        clear hfr hdep
        refine if_wanted rfl (fun Q => op_any (fun K hK => ?_))
        go_simp
        exact hK _ _ rfl hJ (Below.refl _ _)
      · intro ac wd hJ hfr hdep
        have s9 : ac.tmps.getD 9 undef = .pointer (some ⟨B0, 5, none⟩) := hdep 0 _ 9 (by decide) rfl rfl
        have s9' := slot' s9
        clear hfr hdep
        refine if_wanted rfl (fun Q => op_any (fun K hK => ?_))
        have hq := (HB.out.below hJ).c 5 _ rfl
        go_simp
        exact hK _ _ rfl hJ (Below.refl _ _)
      · intro ac wd hJ hfr hdep
        have s10 : ac.tmps.getD 10 undef = .int .i64 n := hdep 1 _ 10 (by decide) rfl rfl
        have s10' := slot' s10
        clear hfr hdep
        refine if_wanted rfl (fun Q => op_any (fun K hK => ?_))
        go_simp
        exact hK _ _ rfl hJ (Below.refl _ _)
      · intro ac wd hJ hfr hdep
        have s11 : ac.tmps.getD 11 undef = .bool true := hdep 2 _ 11 (by decide) rfl rfl
        have s11' := slot' s11
        clear hfr hdep
        refine if_wanted rfl (fun Q => op_any (fun K hK => ?_))
        go_simp
        exact hK _ _ rfl hJ (Below.refl _ _)
      · intro ac wd hJ hfr hdep
        have sg : ac.tmps.getD 12 undef = .bool true := hdep 3 _ 12 (by decide) rfl rfl
        exact if_unwanted (wanted_no rfl rfl rfl sg (by decide)) rfl
      · intro ac wd hJ hfr hdep
        have sg : ac.tmps.getD 12 undef = .bool true := hdep 3 _ 12 (by decide) rfl rfl
        exact if_unwanted (wanted_no rfl rfl rfl sg (by decide)) rfl
      · intro ac wd hJ hfr hdep
        have sg : ac.tmps.getD 12 undef = .bool true := hdep 3 _ 12 (by decide) rfl rfl
        exact if_unwanted (wanted_no rfl rfl rfl sg (by decide)) rfl
      · intro ac wd hJ hfr hdep
        have sg : ac.tmps.getD 12 undef = .bool true := hdep 3 _ 12 (by decide) rfl rfl
        exact if_unwanted (wanted_no rfl rfl rfl sg (by decide)) rfl
      · intro ac wd hJ hfr hdep
        have sg : ac.tmps.getD 12 undef = .bool true := hdep 3 _ 12 (by decide) rfl rfl
        exact if_unwanted (wanted_no rfl rfl rfl sg (by decide)) rfl
      · intro ac wd hJ hfr hdep
        have sg : ac.tmps.getD 12 undef = .bool true := hdep 3 _ 12 (by decide) rfl rfl
        exact if_unwanted (wanted_no rfl rfl rfl sg (by decide)) rfl
      · intro ac wd hJ hfr hdep
        have s12 : ac.tmps.getD 12 undef = .bool true := hdep 3 _ 12 (by decide) rfl rfl
        have s18 : ac.tmps.getD 18 undef = undef := hdep 9 _ 18 (by decide) rfl rfl
        have s12' := slot' s12
        have s18' := slot' s18
        clear hfr hdep
        refine if_wanted rfl (fun Q => op_any (fun K hK => ?_))
        go_simp
        exact hK _ _ rfl hJ (Below.refl _ _)
      · intro ac wd hJ hfr hdep
        have s19 : ac.tmps.getD 19 undef = (Value.bool true) := hdep 10 _ 19 (by decide) rfl rfl
        have s19' := slot' s19
        clear hfr hdep
        refine if_wanted rfl (fun Q => op_any (fun K hK => ?_))
        go_simp
        refine (HWa.out _).mono ?_
        rintro e wz ⟨rfl, rfl⟩
        exact hK _ _ rfl hJ (Below.refl _ _)
      · intro ac wd hJ hfr hdep
        have s1 : ac.tmps.getD 1 undef = .pointer (some ⟨B0, 0, none⟩) := (hfr 1 (by decide)).trans rfl
        have s1' := slot' s1
        clear hfr hdep
        refine if_wanted rfl (fun Q => op_any (fun K hK => ?_))
        exact wp_load_row 23 _ rfl B0 s1 23 _ (0, 0) _ (HB.out.below hJ) Tryd.underlying23 rfl (by kernel_rfl) (hK _ _ rfl hJ (Below.refl _ _))
      · intro ac wd hJ hfr hdep
        have s21 : ac.tmps.getD 21 undef = .agg #[.bool V, .int .i64 bc, .int .i64 rc, .int .i64 m, .int .i64 (dn : Int), .int .i64 n, .int .i64 b, .int .i64 r, .int .i64 d] := hdep 12 _ 21 (by decide) rfl rfl
        have s21' := slot' s21
        clear hfr hdep
        refine if_wanted rfl (fun Q => op_any (fun K hK => ?_))
        go_simp
        refine (HBf.out _ (bnext Hb1.out hJ)).mono ?_
        rintro e wz ⟨rfl, hbz⟩
        exact hK _ _ rfl (bnext hJ hbz) hbz
      · intro ac wd hJ hfr hdep
        have s22 : ac.tmps.getD 22 undef = .bool false := hdep 13 _ 22 (by decide) rfl rfl
        have s22' := slot' s22
        clear hfr hdep
        refine if_wanted rfl (fun Q => op_any (fun K hK => ?_))
        go_simp
        exact hK _ _ rfl hJ (Below.refl _ _)
      · intro ac wd hJ hfr hdep
        have s23 : ac.tmps.getD 23 undef = .bool true := hdep 14 _ 23 (by decide) rfl rfl
        have s23' := slot' s23
        clear hfr hdep
        refine if_wanted rfl (fun Q => op_any (fun K hK => ?_))
        go_simp
        exact hK _ _ rfl hJ (Below.refl _ _)
      · intro ac wd hJ hfr hdep
        have sg : ac.tmps.getD 24 undef = .bool true := hdep 15 _ 24 (by decide) rfl rfl
        exact if_unwanted (wanted_no rfl rfl rfl sg (by decide)) rfl
      · intro ac wd hJ hfr hdep
        have sg : ac.tmps.getD 24 undef = .bool true := hdep 15 _ 24 (by decide) rfl rfl
        exact if_unwanted (wanted_no rfl rfl rfl sg (by decide)) rfl
      · intro ac wd hJ hfr hdep
        have sg : ac.tmps.getD 24 undef = .bool true := hdep 15 _ 24 (by decide) rfl rfl
        exact if_unwanted (wanted_no rfl rfl rfl sg (by decide)) rfl
      · intro ac wd hJ hfr hdep
        have s24 : ac.tmps.getD 24 undef = .bool true := hdep 15 _ 24 (by decide) rfl rfl
        have s27 : ac.tmps.getD 27 undef = undef := hdep 18 _ 27 (by decide) rfl rfl
        have s24' := slot' s24
        have s27' := slot' s27
        clear hfr hdep
        refine if_wanted rfl (fun Q => op_any (fun K hK => ?_))
        go_simp
        exact hK _ _ rfl hJ (Below.refl _ _)
      · intro ac wd hJ hfr hdep
        have s28 : ac.tmps.getD 28 undef = (Value.bool true) := hdep 19 _ 28 (by decide) rfl rfl
        have s28' := slot' s28
        clear hfr hdep
        refine if_wanted rfl (fun Q => op_any (fun K hK => ?_))
        go_simp
        exact hK _ _ rfl hJ (Below.refl _ _)
      · intro ac wd hJ hfr hdep
        have sg : ac.tmps.getD 29 undef = .bool true := hdep 20 _ 29 (by decide) rfl rfl
        exact if_unwanted (wanted_no rfl rfl rfl sg (by decide)) rfl
      · intro ac wd hJ hfr hdep
        have sg : ac.tmps.getD 29 undef = .bool true := hdep 20 _ 29 (by decide) rfl rfl
        exact if_unwanted (wanted_no rfl rfl rfl sg (by decide)) rfl
      · intro ac wd hJ hfr hdep
        have sg : ac.tmps.getD 29 undef = .bool true := hdep 20 _ 29 (by decide) rfl rfl
        exact if_unwanted (wanted_no rfl rfl rfl sg (by decide)) rfl
      · intro ac wd hJ hfr hdep
        have sg : ac.tmps.getD 29 undef = .bool true := hdep 20 _ 29 (by decide) rfl rfl
        exact if_unwanted (wanted_no rfl rfl rfl sg (by decide)) rfl
      · intro ac wd hJ hfr hdep
        have sg : ac.tmps.getD 29 undef = .bool true := hdep 20 _ 29 (by decide) rfl rfl
        exact if_unwanted (wanted_no rfl rfl rfl sg (by decide)) rfl
      · intro ac wd hJ hfr hdep
        have sg : ac.tmps.getD 29 undef = .bool true := hdep 20 _ 29 (by decide) rfl rfl
        exact if_unwanted (wanted_no rfl rfl rfl sg (by decide)) rfl
      · intro ac wd hJ hfr hdep
        have sg : ac.tmps.getD 29 undef = .bool true := hdep 20 _ 29 (by decide) rfl rfl
        exact if_unwanted (wanted_no rfl rfl rfl sg (by decide)) rfl
      · intro ac wd hJ hfr hdep
        have s29 : ac.tmps.getD 29 undef = (Value.bool true) := hdep 20 _ 29 (by decide) rfl rfl
        have s36 : ac.tmps.getD 36 undef = undef := hdep 27 _ 36 (by decide) rfl rfl
        have s29' := slot' s29
        have s36' := slot' s36
        clear hfr hdep
        refine if_wanted rfl (fun Q => op_any (fun K hK => ?_))
        go_simp
        exact hK _ _ rfl hJ (Below.refl _ _)
      · intro ac wd hJ hfr hdep
        have s37 : ac.tmps.getD 37 undef = (Value.bool true) := hdep 28 _ 37 (by decide) rfl rfl
        have s37' := slot' s37
        clear hfr hdep
        refine if_wanted rfl (fun Q => op_any (fun K hK => ?_))
        go_simp
        refine (HWd.out _).mono ?_
        rintro e wz ⟨rfl, rfl⟩
        exact hK _ _ rfl hJ (Below.refl _ _)
      · intro ac wd hJ hfr hdep
        have s20 : ac.tmps.getD 20 undef = .int .i64 ya := hdep 11 _ 20 (by decide) rfl rfl
        have s38 : ac.tmps.getD 38 undef = .int .i64 yd := hdep 29 _ 38 (by decide) rfl rfl
        have s20' := slot' s20
        have s38' := slot' s38
        clear hfr hdep
        refine if_wanted rfl (fun Q => op_any (fun K hK => ?_))
        go_simp
        exact hK _ _ ⟨_, rfl, heap_alloc_new wd _⟩ (bal hJ _) (bal (Below.refl _ _) _)
      · intro ac wd hJ hfr hdep
        obtain ⟨g39, s39, b39⟩ := hdep 30 _ 39 (by decide) rfl rfl
        have s39' := slot' s39
        clear hfr hdep
        refine if_wanted rfl (fun Q => op_any (fun K hK => ?_))
        go_simp
        refine (HFi.out g39 _ b39).mono ?_
        rintro e wz ⟨rfl, rfl⟩
        exact hK _ _ rfl hJ (Below.refl _ _)
      · intro ac wd hJ hfr hdep
        have s40 : ac.tmps.getD 40 undef = .int .i64 z := hdep 31 _ 40 (by decide) rfl rfl
        have s40' := slot' s40
        clear hfr hdep
        refine if_wanted rfl (fun Q => op_any (fun K hK => ?_))
        go_simp
        exact hK _ _ rfl hJ (Below.refl _ _)
      intro f w' hJ hR
      have e0 : f 0 = .pointer (some ⟨B0, 5, none⟩) := hR 0 (by decide)
      have e1 : f 1 = .int .i64 n := hR 1 (by decide)
      have e2 : f 2 = .bool true := hR 2 (by decide)
      have e3 : f 3 = .bool true := hR 3 (by decide)
      have e4 : f 4 = undef := hR 4 (by decide)
      have e5 : f 5 = undef := hR 5 (by decide)
      have e6 : f 6 = undef := hR 6 (by decide)
      have e7 : f 7 = undef := hR 7 (by decide)
      have e8 : f 8 = undef := hR 8 (by decide)
      have e9 : f 9 = undef := hR 9 (by decide)
      have e10 : f 10 = (Value.bool true) := hR 10 (by decide)
      have e11 : f 11 = .int .i64 ya := hR 11 (by decide)
      have e12 : f 12 = .agg #[.bool V, .int .i64 bc, .int .i64 rc, .int .i64 m, .int .i64 (dn : Int), .int .i64 n, .int .i64 b, .int .i64 r, .int .i64 d] := hR 12 (by decide)
      have e13 : f 13 = .bool false := hR 13 (by decide)
      have e14 : f 14 = .bool true := hR 14 (by decide)
      have e15 : f 15 = .bool true := hR 15 (by decide)
      have e16 : f 16 = undef := hR 16 (by decide)
      have e17 : f 17 = undef := hR 17 (by decide)
      have e18 : f 18 = undef := hR 18 (by decide)
      have e19 : f 19 = (Value.bool true) := hR 19 (by decide)
      have e20 : f 20 = (Value.bool true) := hR 20 (by decide)
      have e21 : f 21 = undef := hR 21 (by decide)
      have e22 : f 22 = undef := hR 22 (by decide)
      have e23 : f 23 = undef := hR 23 (by decide)
      have e24 : f 24 = undef := hR 24 (by decide)
      have e25 : f 25 = undef := hR 25 (by decide)
      have e26 : f 26 = undef := hR 26 (by decide)
      have e27 : f 27 = undef := hR 27 (by decide)
      have e28 : f 28 = (Value.bool true) := hR 28 (by decide)
      have e29 : f 29 = .int .i64 yd := hR 29 (by decide)
      obtain ⟨g30', e30, b30'⟩ := hR 30 (by decide)
      have e31 : f 31 = .int .i64 z := hR 31 (by decide)
      have e32 : f 32 = .int .i64 z := hR 32 (by decide)
      clear hR
      simp only [finA, Act.put, List.setIfInBounds_toArray, List.set_cons_succ, List.set_cons_zero, Nat.reduceAdd, e0, e1, e2, e3, e4, e5, e6, e7, e8, e9, e10, e11, e12, e13, e14, e15, e16, e17, e18, e19, e20, e21, e22, e23, e24, e25, e26, e27, e28, e29, e30, e31, e32]
      clear e0 e1 e2 e3 e4 e5 e6 e7 e8 e9 e10 e11 e12 e13 e14 e15 e16 e17 e18 e19 e20 e21 e22 e23 e24 e25 e26 e27 e28 e29 e30 e31 e32
      have Hb2 := Lib.hid (bnext Hb1.out hJ)
      go_wp2_with fail
      go_ret
      exact ⟨rfl, Hb2.out⟩
    · cases xg
      · have Hya : Hid (∀ W, Calls Tryd.prog 34 #[.bool true, .int .i64 10] W fun e w' => e = .returned (.int .i64 (if (decide (n < 0) || decide (n ≥ xm)) then (10 : Int) else 0)) ∧ w' = W) := by rw [hn]; exact fun W => wrong_any _ 10 W
        have HWd : Hid (∀ W, Calls Tryd.prog 34 #[.bool true, .int .i64 22] W fun e w' => e = .returned (.int .i64 (if (!true || !false || d != xd) then (22 : Int) else 0)) ∧ w' = W) := fun W => wrong_any _ 22 W
        have HWa := Hya
        clear Hya
        generalize (if (decide (n < 0) || decide (n ≥ xm)) then (10 : Int) else 0) = ya at *
        generalize (if (!true || !false || d != xd) then (22 : Int) else 0) = yd at *
        have HFi : Hid (∀ (g : Nat) W, W.heap[g]? = some (.cells #[.int .i64 ya, .int .i64 yd] 24 (0, 0)) → Calls Tryd.prog 33 #[.slice (some ⟨g, 0, none⟩) 2 2] W fun e w' => e = .returned (.int .i64 (fstE [ya, yd])) ∧ w' = W) := fun g W hg => first_any [ya, yd] _ 2 W (rd_row hg _ rfl) (by show 2 ≤ 100; omega)
        generalize fstE [ya, yd] = z at *
        go_enter Tryd.func11, Tryd.ntmps11
        go_wp2_with fail
        refine (HC.out _ Hb0.out).mono ?_
        rintro e w1 ⟨rfl, hb1⟩
        have Hb1 := Lib.hid (bnext Hb0.out hb1)
        have HB : Hid (HdAt w1 w.heap.size ⟨V, bc, rc, m, dn, n, b, r, d⟩) := HB0.out.below hb1
        clear HC Hb0 HB0 hb1
        go_wp2_with fail
        obtain ⟨B0, hB0⟩ : ∃ B0, w.heap.size = B0 := ⟨_, rfl⟩
        rw [hB0] at HB ⊢
        refine wp_region_specs [
          Spec.val (.pointer (some ⟨B0, 5, none⟩)),
          Spec.val (.int .i64 n),
          Spec.val (.bool true),
          Spec.val (.bool true),
          Spec.val (undef),
          Spec.val (undef),
          Spec.val (undef),
          Spec.val (undef),
          Spec.val (undef),
          Spec.val (undef),
          Spec.val ((Value.bool true)),
          Spec.val (.int .i64 ya),
          Spec.val (.agg #[.bool V, .int .i64 bc, .int .i64 rc, .int .i64 m, .int .i64 (dn : Int), .int .i64 n, .int .i64 b, .int .i64 r, .int .i64 d]),
          Spec.val (.bool true),
          Spec.val (.bool false),
          Spec.val (.bool false),
          Spec.val (.agg #[.bool V, .int .i64 bc, .int .i64 rc, .int .i64 m, .int .i64 (dn : Int), .int .i64 n, .int .i64 b, .int .i64 r, .int .i64 d]),
          Spec.val (.bool false),
          Spec.val (.bool true),
          Spec.val (.bool true),
          Spec.val (.bool true),
          Spec.val (undef),
          Spec.val (undef),
          Spec.val (undef),
          Spec.val (undef),
          Spec.val (undef),
          Spec.val (undef),
          Spec.val (undef),
          Spec.val ((Value.bool true)),
          Spec.val (.int .i64 yd),
          Spec.row #[.int .i64 ya, .int .i64 yd] 24 2,
          Spec.val (.int .i64 z),
          Spec.val (.int .i64 z)] w1 (by kernel_rfl) (by repeat (first | exact Below.refl _ _ | assumption | refine below_drewN ?_ _ | refine Below.drew ?_ | refine Below.alloc ?_ (Nat.le_refl _) _ | refine bal ?_ _ | refine bnext ?_ (by assumption))) (n := 41) rfl (by decide +kernel) ⟨?_, ?_, ?_, ?_, ?_, ?_, ?_, ?_, ?_, ?_, ?_, ?_, ?_, ?_, ?_, ?_, ?_, ?_, ?_, ?_, ?_, ?_, ?_, ?_, ?_, ?_, ?_, ?_, ?_, ?_, ?_, ?_, ?_, trivial⟩ ?_
        · intro ac wd hJ hfr hdep
          have s1 : ac.tmps.getD 1 undef = .pointer (some ⟨B0, 0, none⟩) := (hfr 1 (by decide)).trans rfl
          have s1' := slot' s1
          clear hfr hdep
          refine if_wanted rfl (fun Q => op_any (fun K hK => ?_))
          go_simp
          exact hK _ _ rfl hJ (Below.refl _ _)
        · intro ac wd hJ hfr hdep
          have s9 : ac.tmps.getD 9 undef = .pointer (some ⟨B0, 5, none⟩) := hdep 0 _ 9 (by decide) rfl rfl
          have s9' := slot' s9
          clear hfr hdep
          refine if_wanted rfl (fun Q => op_any (fun K hK => ?_))
          have hq := (HB.out.below hJ).c 5 _ rfl
          go_simp
          exact hK _ _ rfl hJ (Below.refl _ _)
        · intro ac wd hJ hfr hdep
          have s10 : ac.tmps.getD 10 undef = .int .i64 n := hdep 1 _ 10 (by decide) rfl rfl
          have s10' := slot' s10
          clear hfr hdep
          refine if_wanted rfl (fun Q => op_any (fun K hK => ?_))
          go_simp
          exact hK _ _ rfl hJ (Below.refl _ _)
        · intro ac wd hJ hfr hdep
          have s11 : ac.tmps.getD 11 undef = .bool true := hdep 2 _ 11 (by decide) rfl rfl
          have s11' := slot' s11
          clear hfr hdep
          refine if_wanted rfl (fun Q => op_any (fun K hK => ?_))
          go_simp
          exact hK _ _ rfl hJ (Below.refl _ _)
        · intro ac wd hJ hfr hdep
          have sg : ac.tmps.getD 12 undef = .bool true := hdep 3 _ 12 (by decide) rfl rfl
          exact if_unwanted (wanted_no rfl rfl rfl sg (by decide)) rfl
        · intro ac wd hJ hfr hdep
          have sg : ac.tmps.getD 12 undef = .bool true := hdep 3 _ 12 (by decide) rfl rfl
          exact if_unwanted (wanted_no rfl rfl rfl sg (by decide)) rfl
        · intro ac wd hJ hfr hdep
          have sg : ac.tmps.getD 12 undef = .bool true := hdep 3 _ 12 (by decide) rfl rfl
          exact if_unwanted (wanted_no rfl rfl rfl sg (by decide)) rfl
        · intro ac wd hJ hfr hdep
          have sg : ac.tmps.getD 12 undef = .bool true := hdep 3 _ 12 (by decide) rfl rfl
          exact if_unwanted (wanted_no rfl rfl rfl sg (by decide)) rfl
        · intro ac wd hJ hfr hdep
          have sg : ac.tmps.getD 12 undef = .bool true := hdep 3 _ 12 (by decide) rfl rfl
          exact if_unwanted (wanted_no rfl rfl rfl sg (by decide)) rfl
        · intro ac wd hJ hfr hdep
          have sg : ac.tmps.getD 12 undef = .bool true := hdep 3 _ 12 (by decide) rfl rfl
          exact if_unwanted (wanted_no rfl rfl rfl sg (by decide)) rfl
        · intro ac wd hJ hfr hdep
          have s12 : ac.tmps.getD 12 undef = .bool true := hdep 3 _ 12 (by decide) rfl rfl
          have s18 : ac.tmps.getD 18 undef = undef := hdep 9 _ 18 (by decide) rfl rfl
          have s12' := slot' s12
          have s18' := slot' s18
          clear hfr hdep
          refine if_wanted rfl (fun Q => op_any (fun K hK => ?_))
          go_simp
          exact hK _ _ rfl hJ (Below.refl _ _)
        · intro ac wd hJ hfr hdep
          have s19 : ac.tmps.getD 19 undef = (Value.bool true) := hdep 10 _ 19 (by decide) rfl rfl
          have s19' := slot' s19
          clear hfr hdep
          refine if_wanted rfl (fun Q => op_any (fun K hK => ?_))
          go_simp
          refine (HWa.out _).mono ?_
          rintro e wz ⟨rfl, rfl⟩
          exact hK _ _ rfl hJ (Below.refl _ _)
        · intro ac wd hJ hfr hdep
          have s1 : ac.tmps.getD 1 undef = .pointer (some ⟨B0, 0, none⟩) := (hfr 1 (by decide)).trans rfl
          have s1' := slot' s1
          clear hfr hdep
          refine if_wanted rfl (fun Q => op_any (fun K hK => ?_))
          exact wp_load_row 23 _ rfl B0 s1 23 _ (0, 0) _ (HB.out.below hJ) Tryd.underlying23 rfl (by kernel_rfl) (hK _ _ rfl hJ (Below.refl _ _))
        · intro ac wd hJ hfr hdep
          have s21 : ac.tmps.getD 21 undef = .agg #[.bool V, .int .i64 bc, .int .i64 rc, .int .i64 m, .int .i64 (dn : Int), .int .i64 n, .int .i64 b, .int .i64 r, .int .i64 d] := hdep 12 _ 21 (by decide) rfl rfl
          have s21' := slot' s21
          clear hfr hdep
          refine if_wanted rfl (fun Q => op_any (fun K hK => ?_))
          go_simp
          refine (HBf.out _ (bnext Hb1.out hJ)).mono ?_
          rintro e wz ⟨rfl, hbz⟩
          exact hK _ _ rfl (bnext hJ hbz) hbz
        · intro ac wd hJ hfr hdep
          have s22 : ac.tmps.getD 22 undef = .bool true := hdep 13 _ 22 (by decide) rfl rfl
          have s22' := slot' s22
          clear hfr hdep
          refine if_wanted rfl (fun Q => op_any (fun K hK => ?_))
          go_simp
          exact hK _ _ rfl hJ (Below.refl _ _)
        · intro ac wd hJ hfr hdep
          have s23 : ac.tmps.getD 23 undef = .bool false := hdep 14 _ 23 (by decide) rfl rfl
          have s23' := slot' s23
          clear hfr hdep
          refine if_wanted rfl (fun Q => op_any (fun K hK => ?_))
          go_simp
          exact hK _ _ rfl hJ (Below.refl _ _)
        · intro ac wd hJ hfr hdep
          have sg : ac.tmps.getD 24 undef = .bool false := hdep 15 _ 24 (by decide) rfl rfl
          have s1 : ac.tmps.getD 1 undef = .pointer (some ⟨B0, 0, none⟩) := (hfr 1 (by decide)).trans rfl
          have s1' := slot' s1
          clear hfr hdep
          refine if_wanted (wanted_yes rfl rfl rfl sg) (fun Q => op_any (fun K hK => ?_))
          exact wp_load_row 23 _ rfl B0 s1 23 _ (0, 0) _ (HB.out.below hJ) Tryd.underlying23 rfl (by kernel_rfl) (hK _ _ rfl hJ (Below.refl _ _))
        · intro ac wd hJ hfr hdep
          have sg : ac.tmps.getD 24 undef = .bool false := hdep 15 _ 24 (by decide) rfl rfl
          have s25 : ac.tmps.getD 25 undef = .agg #[.bool V, .int .i64 bc, .int .i64 rc, .int .i64 m, .int .i64 (dn : Int), .int .i64 n, .int .i64 b, .int .i64 r, .int .i64 d] := hdep 16 _ 25 (by decide) rfl rfl
          have s25' := slot' s25
          clear hfr hdep
          refine if_wanted (wanted_yes rfl rfl rfl sg) (fun Q => op_any (fun K hK => ?_))
          go_simp
          refine (HRf.out _ (bnext Hb1.out hJ)).mono ?_
          rintro e wz ⟨rfl, hbz⟩
          exact hK _ _ rfl (bnext hJ hbz) hbz
        · intro ac wd hJ hfr hdep
          have sg : ac.tmps.getD 24 undef = .bool false := hdep 15 _ 24 (by decide) rfl rfl
          have s26 : ac.tmps.getD 26 undef = .bool false := hdep 17 _ 26 (by decide) rfl rfl
          have s26' := slot' s26
          clear hfr hdep
          refine if_wanted (wanted_yes rfl rfl rfl sg) (fun Q => op_any (fun K hK => ?_))
          go_simp
          exact hK _ _ rfl hJ (Below.refl _ _)
        · intro ac wd hJ hfr hdep
          have s24 : ac.tmps.getD 24 undef = .bool false := hdep 15 _ 24 (by decide) rfl rfl
          have s27 : ac.tmps.getD 27 undef = .bool true := hdep 18 _ 27 (by decide) rfl rfl
          have s24' := slot' s24
          have s27' := slot' s27
          clear hfr hdep
          refine if_wanted rfl (fun Q => op_any (fun K hK => ?_))
          go_simp
          exact hK _ _ rfl hJ (Below.refl _ _)
        · intro ac wd hJ hfr hdep
          have s28 : ac.tmps.getD 28 undef = .bool true := hdep 19 _ 28 (by decide) rfl rfl
          have s28' := slot' s28
          clear hfr hdep
          refine if_wanted rfl (fun Q => op_any (fun K hK => ?_))
          go_simp
          exact hK _ _ rfl hJ (Below.refl _ _)
        · intro ac wd hJ hfr hdep
          have sg : ac.tmps.getD 29 undef = .bool true := hdep 20 _ 29 (by decide) rfl rfl
          exact if_unwanted (wanted_no rfl rfl rfl sg (by decide)) rfl
        · intro ac wd hJ hfr hdep
          have sg : ac.tmps.getD 29 undef = .bool true := hdep 20 _ 29 (by decide) rfl rfl
          exact if_unwanted (wanted_no rfl rfl rfl sg (by decide)) rfl
        · intro ac wd hJ hfr hdep
          have sg : ac.tmps.getD 29 undef = .bool true := hdep 20 _ 29 (by decide) rfl rfl
          exact if_unwanted (wanted_no rfl rfl rfl sg (by decide)) rfl
        · intro ac wd hJ hfr hdep
          have sg : ac.tmps.getD 29 undef = .bool true := hdep 20 _ 29 (by decide) rfl rfl
          exact if_unwanted (wanted_no rfl rfl rfl sg (by decide)) rfl
        · intro ac wd hJ hfr hdep
          have sg : ac.tmps.getD 29 undef = .bool true := hdep 20 _ 29 (by decide) rfl rfl
          exact if_unwanted (wanted_no rfl rfl rfl sg (by decide)) rfl
        · intro ac wd hJ hfr hdep
          have sg : ac.tmps.getD 29 undef = .bool true := hdep 20 _ 29 (by decide) rfl rfl
          exact if_unwanted (wanted_no rfl rfl rfl sg (by decide)) rfl
        · intro ac wd hJ hfr hdep
          have sg : ac.tmps.getD 29 undef = .bool true := hdep 20 _ 29 (by decide) rfl rfl
          exact if_unwanted (wanted_no rfl rfl rfl sg (by decide)) rfl
        · intro ac wd hJ hfr hdep
          have s29 : ac.tmps.getD 29 undef = .bool true := hdep 20 _ 29 (by decide) rfl rfl
          have s36 : ac.tmps.getD 36 undef = undef := hdep 27 _ 36 (by decide) rfl rfl
          have s29' := slot' s29
          have s36' := slot' s36
          clear hfr hdep
          refine if_wanted rfl (fun Q => op_any (fun K hK => ?_))
          go_simp
          exact hK _ _ rfl hJ (Below.refl _ _)
        · intro ac wd hJ hfr hdep
          have s37 : ac.tmps.getD 37 undef = (Value.bool true) := hdep 28 _ 37 (by decide) rfl rfl
          have s37' := slot' s37
          clear hfr hdep
          refine if_wanted rfl (fun Q => op_any (fun K hK => ?_))
          go_simp
          refine (HWd.out _).mono ?_
          rintro e wz ⟨rfl, rfl⟩
          exact hK _ _ rfl hJ (Below.refl _ _)
        · intro ac wd hJ hfr hdep
          have s20 : ac.tmps.getD 20 undef = .int .i64 ya := hdep 11 _ 20 (by decide) rfl rfl
          have s38 : ac.tmps.getD 38 undef = .int .i64 yd := hdep 29 _ 38 (by decide) rfl rfl
          have s20' := slot' s20
          have s38' := slot' s38
          clear hfr hdep
          refine if_wanted rfl (fun Q => op_any (fun K hK => ?_))
          go_simp
          exact hK _ _ ⟨_, rfl, heap_alloc_new wd _⟩ (bal hJ _) (bal (Below.refl _ _) _)
        · intro ac wd hJ hfr hdep
          obtain ⟨g39, s39, b39⟩ := hdep 30 _ 39 (by decide) rfl rfl
          have s39' := slot' s39
          clear hfr hdep
          refine if_wanted rfl (fun Q => op_any (fun K hK => ?_))
          go_simp
          refine (HFi.out g39 _ b39).mono ?_
          rintro e wz ⟨rfl, rfl⟩
          exact hK _ _ rfl hJ (Below.refl _ _)
        · intro ac wd hJ hfr hdep
          have s40 : ac.tmps.getD 40 undef = .int .i64 z := hdep 31 _ 40 (by decide) rfl rfl
          have s40' := slot' s40
          clear hfr hdep
          refine if_wanted rfl (fun Q => op_any (fun K hK => ?_))
          go_simp
          exact hK _ _ rfl hJ (Below.refl _ _)
        intro f w' hJ hR
        have e0 : f 0 = .pointer (some ⟨B0, 5, none⟩) := hR 0 (by decide)
        have e1 : f 1 = .int .i64 n := hR 1 (by decide)
        have e2 : f 2 = .bool true := hR 2 (by decide)
        have e3 : f 3 = .bool true := hR 3 (by decide)
        have e4 : f 4 = undef := hR 4 (by decide)
        have e5 : f 5 = undef := hR 5 (by decide)
        have e6 : f 6 = undef := hR 6 (by decide)
        have e7 : f 7 = undef := hR 7 (by decide)
        have e8 : f 8 = undef := hR 8 (by decide)
        have e9 : f 9 = undef := hR 9 (by decide)
        have e10 : f 10 = (Value.bool true) := hR 10 (by decide)
        have e11 : f 11 = .int .i64 ya := hR 11 (by decide)
        have e12 : f 12 = .agg #[.bool V, .int .i64 bc, .int .i64 rc, .int .i64 m, .int .i64 (dn : Int), .int .i64 n, .int .i64 b, .int .i64 r, .int .i64 d] := hR 12 (by decide)
        have e13 : f 13 = .bool true := hR 13 (by decide)
        have e14 : f 14 = .bool false := hR 14 (by decide)
        have e15 : f 15 = .bool false := hR 15 (by decide)
        have e16 : f 16 = .agg #[.bool V, .int .i64 bc, .int .i64 rc, .int .i64 m, .int .i64 (dn : Int), .int .i64 n, .int .i64 b, .int .i64 r, .int .i64 d] := hR 16 (by decide)
        have e17 : f 17 = .bool false := hR 17 (by decide)
        have e18 : f 18 = .bool true := hR 18 (by decide)
        have e19 : f 19 = .bool true := hR 19 (by decide)
        have e20 : f 20 = .bool true := hR 20 (by decide)
        have e21 : f 21 = undef := hR 21 (by decide)
        have e22 : f 22 = undef := hR 22 (by decide)
        have e23 : f 23 = undef := hR 23 (by decide)
        have e24 : f 24 = undef := hR 24 (by decide)
        have e25 : f 25 = undef := hR 25 (by decide)
        have e26 : f 26 = undef := hR 26 (by decide)
        have e27 : f 27 = undef := hR 27 (by decide)
        have e28 : f 28 = (Value.bool true) := hR 28 (by decide)
        have e29 : f 29 = .int .i64 yd := hR 29 (by decide)
        obtain ⟨g30', e30, b30'⟩ := hR 30 (by decide)
        have e31 : f 31 = .int .i64 z := hR 31 (by decide)
        have e32 : f 32 = .int .i64 z := hR 32 (by decide)
        clear hR
        simp only [finA, Act.put, List.setIfInBounds_toArray, List.set_cons_succ, List.set_cons_zero, Nat.reduceAdd, e0, e1, e2, e3, e4, e5, e6, e7, e8, e9, e10, e11, e12, e13, e14, e15, e16, e17, e18, e19, e20, e21, e22, e23, e24, e25, e26, e27, e28, e29, e30, e31, e32]
        clear e0 e1 e2 e3 e4 e5 e6 e7 e8 e9 e10 e11 e12 e13 e14 e15 e16 e17 e18 e19 e20 e21 e22 e23 e24 e25 e26 e27 e28 e29 e30 e31 e32
        have Hb2 := Lib.hid (bnext Hb1.out hJ)
        go_wp2_with fail
        go_ret
        exact ⟨rfl, Hb2.out⟩
      · have Hya : Hid (∀ W, Calls Tryd.prog 34 #[.bool true, .int .i64 10] W fun e w' => e = .returned (.int .i64 (if (decide (n < 0) || decide (n ≥ xm)) then (10 : Int) else 0)) ∧ w' = W) := by rw [hn]; exact fun W => wrong_any _ 10 W
        have HWd : Hid (∀ W, Calls Tryd.prog 34 #[.bool (d != xd), .int .i64 22] W fun e w' => e = .returned (.int .i64 (if (!true || !true || d != xd) then (22 : Int) else 0)) ∧ w' = W) := fun W => wrong_any _ 22 W
        have HWa := Hya
        clear Hya
        generalize (if (decide (n < 0) || decide (n ≥ xm)) then (10 : Int) else 0) = ya at *
        generalize (if (!true || !true || d != xd) then (22 : Int) else 0) = yd at *
        have HFi : Hid (∀ (g : Nat) W, W.heap[g]? = some (.cells #[.int .i64 ya, .int .i64 yd] 24 (0, 0)) → Calls Tryd.prog 33 #[.slice (some ⟨g, 0, none⟩) 2 2] W fun e w' => e = .returned (.int .i64 (fstE [ya, yd])) ∧ w' = W) := fun g W hg => first_any [ya, yd] _ 2 W (rd_row hg _ rfl) (by show 2 ≤ 100; omega)
        generalize fstE [ya, yd] = z at *
        go_enter Tryd.func11, Tryd.ntmps11
        go_wp2_with fail
        refine (HC.out _ Hb0.out).mono ?_
        rintro e w1 ⟨rfl, hb1⟩
        have Hb1 := Lib.hid (bnext Hb0.out hb1)
        have HB : Hid (HdAt w1 w.heap.size ⟨V, bc, rc, m, dn, n, b, r, d⟩) := HB0.out.below hb1
        clear HC Hb0 HB0 hb1
        go_wp2_with fail
        obtain ⟨B0, hB0⟩ : ∃ B0, w.heap.size = B0 := ⟨_, rfl⟩
        rw [hB0] at HB ⊢
        refine wp_region_specs [
          Spec.val (.pointer (some ⟨B0, 5, none⟩)),
          Spec.val (.int .i64 n),
          Spec.val (.bool true),
          Spec.val (.bool true),
          Spec.val (undef),
          Spec.val (undef),
          Spec.val (undef),
          Spec.val (undef),
          Spec.val (undef),
          Spec.val (undef),
          Spec.val ((Value.bool true)),
          Spec.val (.int .i64 ya),
          Spec.val (.agg #[.bool V, .int .i64 bc, .int .i64 rc, .int .i64 m, .int .i64 (dn : Int), .int .i64 n, .int .i64 b, .int .i64 r, .int .i64 d]),
          Spec.val (.bool true),
          Spec.val (.bool false),
          Spec.val (.bool false),
          Spec.val (.agg #[.bool V, .int .i64 bc, .int .i64 rc, .int .i64 m, .int .i64 (dn : Int), .int .i64 n, .int .i64 b, .int .i64 r, .int .i64 d]),
          Spec.val (.bool true),
          Spec.val (.bool false),
          Spec.val (.bool false),
          Spec.val (.bool false),
          Spec.val (.pointer (some ⟨B0, 8, none⟩)),
          Spec.val (.int .i64 d),
          Spec.val (.pointer (some ⟨B0, 4, none⟩)),
          Spec.val (.int .i64 (dn : Int)),
          Spec.val (.pointer (some ⟨2, dn, none⟩)),
          Spec.val (.int .i64 xd),
          Spec.val (.bool (d != xd)),
          Spec.val (.bool (d != xd)),
          Spec.val (.int .i64 yd),
          Spec.row #[.int .i64 ya, .int .i64 yd] 24 2,
          Spec.val (.int .i64 z),
          Spec.val (.int .i64 z)] w1 (by kernel_rfl) (by repeat (first | exact Below.refl _ _ | assumption | refine below_drewN ?_ _ | refine Below.drew ?_ | refine Below.alloc ?_ (Nat.le_refl _) _ | refine bal ?_ _ | refine bnext ?_ (by assumption))) (n := 41) rfl (by decide +kernel) ⟨?_, ?_, ?_, ?_, ?_, ?_, ?_, ?_, ?_, ?_, ?_, ?_, ?_, ?_, ?_, ?_, ?_, ?_, ?_, ?_, ?_, ?_, ?_, ?_, ?_, ?_, ?_, ?_, ?_, ?_, ?_, ?_, ?_, trivial⟩ ?_
        · intro ac wd hJ hfr hdep
          have s1 : ac.tmps.getD 1 undef = .pointer (some ⟨B0, 0, none⟩) := (hfr 1 (by decide)).trans rfl
          have s1' := slot' s1
          clear hfr hdep
          refine if_wanted rfl (fun Q => op_any (fun K hK => ?_))
          go_simp
          exact hK _ _ rfl hJ (Below.refl _ _)
        · intro ac wd hJ hfr hdep
          have s9 : ac.tmps.getD 9 undef = .pointer (some ⟨B0, 5, none⟩) := hdep 0 _ 9 (by decide) rfl rfl
          have s9' := slot' s9
          clear hfr hdep
          refine if_wanted rfl (fun Q => op_any (fun K hK => ?_))
          have hq := (HB.out.below hJ).c 5 _ rfl
          go_simp
          exact hK _ _ rfl hJ (Below.refl _ _)
        · intro ac wd hJ hfr hdep
          have s10 : ac.tmps.getD 10 undef = .int .i64 n := hdep 1 _ 10 (by decide) rfl rfl
          have s10' := slot' s10
          clear hfr hdep
          refine if_wanted rfl (fun Q => op_any (fun K hK => ?_))
          go_simp
          exact hK _ _ rfl hJ (Below.refl _ _)
        · intro ac wd hJ hfr hdep
          have s11 : ac.tmps.getD 11 undef = .bool true := hdep 2 _ 11 (by decide) rfl rfl
          have s11' := slot' s11
          clear hfr hdep
          refine if_wanted rfl (fun Q => op_any (fun K hK => ?_))
          go_simp
          exact hK _ _ rfl hJ (Below.refl _ _)
        · intro ac wd hJ hfr hdep
          have sg : ac.tmps.getD 12 undef = .bool true := hdep 3 _ 12 (by decide) rfl rfl
          exact if_unwanted (wanted_no rfl rfl rfl sg (by decide)) rfl
        · intro ac wd hJ hfr hdep
          have sg : ac.tmps.getD 12 undef = .bool true := hdep 3 _ 12 (by decide) rfl rfl
          exact if_unwanted (wanted_no rfl rfl rfl sg (by decide)) rfl
        · intro ac wd hJ hfr hdep
          have sg : ac.tmps.getD 12 undef = .bool true := hdep 3 _ 12 (by decide) rfl rfl
          exact if_unwanted (wanted_no rfl rfl rfl sg (by decide)) rfl
        · intro ac wd hJ hfr hdep
          have sg : ac.tmps.getD 12 undef = .bool true := hdep 3 _ 12 (by decide) rfl rfl
          exact if_unwanted (wanted_no rfl rfl rfl sg (by decide)) rfl
        · intro ac wd hJ hfr hdep
          have sg : ac.tmps.getD 12 undef = .bool true := hdep 3 _ 12 (by decide) rfl rfl
          exact if_unwanted (wanted_no rfl rfl rfl sg (by decide)) rfl
        · intro ac wd hJ hfr hdep
          have sg : ac.tmps.getD 12 undef = .bool true := hdep 3 _ 12 (by decide) rfl rfl
          exact if_unwanted (wanted_no rfl rfl rfl sg (by decide)) rfl
        · intro ac wd hJ hfr hdep
          have s12 : ac.tmps.getD 12 undef = .bool true := hdep 3 _ 12 (by decide) rfl rfl
          have s18 : ac.tmps.getD 18 undef = undef := hdep 9 _ 18 (by decide) rfl rfl
          have s12' := slot' s12
          have s18' := slot' s18
          clear hfr hdep
          refine if_wanted rfl (fun Q => op_any (fun K hK => ?_))
          go_simp
          exact hK _ _ rfl hJ (Below.refl _ _)
        · intro ac wd hJ hfr hdep
          have s19 : ac.tmps.getD 19 undef = (Value.bool true) := hdep 10 _ 19 (by decide) rfl rfl
          have s19' := slot' s19
          clear hfr hdep
          refine if_wanted rfl (fun Q => op_any (fun K hK => ?_))
          go_simp
          refine (HWa.out _).mono ?_
          rintro e wz ⟨rfl, rfl⟩
          exact hK _ _ rfl hJ (Below.refl _ _)
        · intro ac wd hJ hfr hdep
          have s1 : ac.tmps.getD 1 undef = .pointer (some ⟨B0, 0, none⟩) := (hfr 1 (by decide)).trans rfl
          have s1' := slot' s1
          clear hfr hdep
          refine if_wanted rfl (fun Q => op_any (fun K hK => ?_))
          exact wp_load_row 23 _ rfl B0 s1 23 _ (0, 0) _ (HB.out.below hJ) Tryd.underlying23 rfl (by kernel_rfl) (hK _ _ rfl hJ (Below.refl _ _))
        · intro ac wd hJ hfr hdep
          have s21 : ac.tmps.getD 21 undef = .agg #[.bool V, .int .i64 bc, .int .i64 rc, .int .i64 m, .int .i64 (dn : Int), .int .i64 n, .int .i64 b, .int .i64 r, .int .i64 d] := hdep 12 _ 21 (by decide) rfl rfl
          have s21' := slot' s21
          clear hfr hdep
          refine if_wanted rfl (fun Q => op_any (fun K hK => ?_))
          go_simp
          refine (HBf.out _ (bnext Hb1.out hJ)).mono ?_
          rintro e wz ⟨rfl, hbz⟩
          exact hK _ _ rfl (bnext hJ hbz) hbz
        · intro ac wd hJ hfr hdep
          have s22 : ac.tmps.getD 22 undef = .bool true := hdep 13 _ 22 (by decide) rfl rfl
          have s22' := slot' s22
          clear hfr hdep
          refine if_wanted rfl (fun Q => op_any (fun K hK => ?_))
          go_simp
          exact hK _ _ rfl hJ (Below.refl _ _)
        · intro ac wd hJ hfr hdep
          have s23 : ac.tmps.getD 23 undef = .bool false := hdep 14 _ 23 (by decide) rfl rfl
          have s23' := slot' s23
          clear hfr hdep
          refine if_wanted rfl (fun Q => op_any (fun K hK => ?_))
          go_simp
          exact hK _ _ rfl hJ (Below.refl _ _)
        · intro ac wd hJ hfr hdep
          have sg : ac.tmps.getD 24 undef = .bool false := hdep 15 _ 24 (by decide) rfl rfl
          have s1 : ac.tmps.getD 1 undef = .pointer (some ⟨B0, 0, none⟩) := (hfr 1 (by decide)).trans rfl
          have s1' := slot' s1
          clear hfr hdep
          refine if_wanted (wanted_yes rfl rfl rfl sg) (fun Q => op_any (fun K hK => ?_))
          exact wp_load_row 23 _ rfl B0 s1 23 _ (0, 0) _ (HB.out.below hJ) Tryd.underlying23 rfl (by kernel_rfl) (hK _ _ rfl hJ (Below.refl _ _))
        · intro ac wd hJ hfr hdep
          have sg : ac.tmps.getD 24 undef = .bool false := hdep 15 _ 24 (by decide) rfl rfl
          have s25 : ac.tmps.getD 25 undef = .agg #[.bool V, .int .i64 bc, .int .i64 rc, .int .i64 m, .int .i64 (dn : Int), .int .i64 n, .int .i64 b, .int .i64 r, .int .i64 d] := hdep 16 _ 25 (by decide) rfl rfl
          have s25' := slot' s25
          clear hfr hdep
          refine if_wanted (wanted_yes rfl rfl rfl sg) (fun Q => op_any (fun K hK => ?_))
          go_simp
          refine (HRf.out _ (bnext Hb1.out hJ)).mono ?_
          rintro e wz ⟨rfl, hbz⟩
          exact hK _ _ rfl (bnext hJ hbz) hbz
        · intro ac wd hJ hfr hdep
          have sg : ac.tmps.getD 24 undef = .bool false := hdep 15 _ 24 (by decide) rfl rfl
          have s26 : ac.tmps.getD 26 undef = .bool true := hdep 17 _ 26 (by decide) rfl rfl
          have s26' := slot' s26
          clear hfr hdep
          refine if_wanted (wanted_yes rfl rfl rfl sg) (fun Q => op_any (fun K hK => ?_))
          go_simp
          exact hK _ _ rfl hJ (Below.refl _ _)
        · intro ac wd hJ hfr hdep
          have s24 : ac.tmps.getD 24 undef = .bool false := hdep 15 _ 24 (by decide) rfl rfl
          have s27 : ac.tmps.getD 27 undef = .bool false := hdep 18 _ 27 (by decide) rfl rfl
          have s24' := slot' s24
          have s27' := slot' s27
          clear hfr hdep
          refine if_wanted rfl (fun Q => op_any (fun K hK => ?_))
          go_simp
          exact hK _ _ rfl hJ (Below.refl _ _)
        · intro ac wd hJ hfr hdep
          have s28 : ac.tmps.getD 28 undef = .bool false := hdep 19 _ 28 (by decide) rfl rfl
          have s28' := slot' s28
          clear hfr hdep
          refine if_wanted rfl (fun Q => op_any (fun K hK => ?_))
          go_simp
          exact hK _ _ rfl hJ (Below.refl _ _)
        · intro ac wd hJ hfr hdep
          have sg : ac.tmps.getD 29 undef = .bool false := hdep 20 _ 29 (by decide) rfl rfl
          have s1 : ac.tmps.getD 1 undef = .pointer (some ⟨B0, 0, none⟩) := (hfr 1 (by decide)).trans rfl
          have s1' := slot' s1
          clear hfr hdep
          refine if_wanted (wanted_yes rfl rfl rfl sg) (fun Q => op_any (fun K hK => ?_))
          go_simp
          exact hK _ _ rfl hJ (Below.refl _ _)
        · intro ac wd hJ hfr hdep
          have sg : ac.tmps.getD 29 undef = .bool false := hdep 20 _ 29 (by decide) rfl rfl
          have s30 : ac.tmps.getD 30 undef = .pointer (some ⟨B0, 8, none⟩) := hdep 21 _ 30 (by decide) rfl rfl
          have s30' := slot' s30
          clear hfr hdep
          refine if_wanted (wanted_yes rfl rfl rfl sg) (fun Q => op_any (fun K hK => ?_))
          have hq := (HB.out.below hJ).c 8 _ rfl
          go_simp
          exact hK _ _ rfl hJ (Below.refl _ _)
        · intro ac wd hJ hfr hdep
          have sg : ac.tmps.getD 29 undef = .bool false := hdep 20 _ 29 (by decide) rfl rfl
          have s1 : ac.tmps.getD 1 undef = .pointer (some ⟨B0, 0, none⟩) := (hfr 1 (by decide)).trans rfl
          have s1' := slot' s1
          clear hfr hdep
          refine if_wanted (wanted_yes rfl rfl rfl sg) (fun Q => op_any (fun K hK => ?_))
          go_simp
          exact hK _ _ rfl hJ (Below.refl _ _)
        · intro ac wd hJ hfr hdep
          have sg : ac.tmps.getD 29 undef = .bool false := hdep 20 _ 29 (by decide) rfl rfl
          have s32 : ac.tmps.getD 32 undef = .pointer (some ⟨B0, 4, none⟩) := hdep 23 _ 32 (by decide) rfl rfl
          have s32' := slot' s32
          clear hfr hdep
          refine if_wanted (wanted_yes rfl rfl rfl sg) (fun Q => op_any (fun K hK => ?_))
          have hq := (HB.out.below hJ).c 4 _ rfl
          go_simp
          exact hK _ _ rfl hJ (Below.refl _ _)
        · intro ac wd hJ hfr hdep
          have sg : ac.tmps.getD 29 undef = .bool false := hdep 20 _ 29 (by decide) rfl rfl
          have s33 : ac.tmps.getD 33 undef = .int .i64 (dn : Int) := hdep 24 _ 33 (by decide) rfl rfl
          have s33' := slot' s33
          clear hfr hdep
          refine if_wanted (wanted_yes rfl rfl rfl sg) (fun Q => op_any (fun K hK => ?_))
          go_simp
          rw [if_pos (show ((dn : Nat) : Int) < 8 from by omega)]
          exact hK _ _ rfl hJ (Below.refl _ _)
        · intro ac wd hJ hfr hdep
          have sg : ac.tmps.getD 29 undef = .bool false := hdep 20 _ 29 (by decide) rfl rfl
          have s34 : ac.tmps.getD 34 undef = .pointer (some ⟨2, dn, none⟩) := hdep 25 _ 34 (by decide) rfl rfl
          have s34' := slot' s34
          clear hfr hdep
          refine if_wanted (wanted_yes rfl rfl rfl sg) (fun Q => op_any (fun K hK => ?_))
          have hq := (HDc.out _ (bnext Hb1.out hJ))
          go_simp
          exact hK _ _ rfl hJ (Below.refl _ _)
        · intro ac wd hJ hfr hdep
          have sg : ac.tmps.getD 29 undef = .bool false := hdep 20 _ 29 (by decide) rfl rfl
          have s31 : ac.tmps.getD 31 undef = .int .i64 d := hdep 22 _ 31 (by decide) rfl rfl
          have s35 : ac.tmps.getD 35 undef = .int .i64 xd := hdep 26 _ 35 (by decide) rfl rfl
          have s31' := slot' s31
          have s35' := slot' s35
          clear hfr hdep
          refine if_wanted (wanted_yes rfl rfl rfl sg) (fun Q => op_any (fun K hK => ?_))
          go_simp
          exact hK _ _ rfl hJ (Below.refl _ _)
        · intro ac wd hJ hfr hdep
          have s29 : ac.tmps.getD 29 undef = .bool false := hdep 20 _ 29 (by decide) rfl rfl
          have s36 : ac.tmps.getD 36 undef = .bool (d != xd) := hdep 27 _ 36 (by decide) rfl rfl
          have s29' := slot' s29
          have s36' := slot' s36
          clear hfr hdep
          refine if_wanted rfl (fun Q => op_any (fun K hK => ?_))
          go_simp
          exact hK _ _ rfl hJ (Below.refl _ _)
        · intro ac wd hJ hfr hdep
          have s37 : ac.tmps.getD 37 undef = .bool (d != xd) := hdep 28 _ 37 (by decide) rfl rfl
          have s37' := slot' s37
          clear hfr hdep
          refine if_wanted rfl (fun Q => op_any (fun K hK => ?_))
          go_simp
          refine (HWd.out _).mono ?_
          rintro e wz ⟨rfl, rfl⟩
          exact hK _ _ rfl hJ (Below.refl _ _)
        · intro ac wd hJ hfr hdep
          have s20 : ac.tmps.getD 20 undef = .int .i64 ya := hdep 11 _ 20 (by decide) rfl rfl
          have s38 : ac.tmps.getD 38 undef = .int .i64 yd := hdep 29 _ 38 (by decide) rfl rfl
          have s20' := slot' s20
          have s38' := slot' s38
          clear hfr hdep
          refine if_wanted rfl (fun Q => op_any (fun K hK => ?_))
          go_simp
          exact hK _ _ ⟨_, rfl, heap_alloc_new wd _⟩ (bal hJ _) (bal (Below.refl _ _) _)
        · intro ac wd hJ hfr hdep
          obtain ⟨g39, s39, b39⟩ := hdep 30 _ 39 (by decide) rfl rfl
          have s39' := slot' s39
          clear hfr hdep
          refine if_wanted rfl (fun Q => op_any (fun K hK => ?_))
          go_simp
          refine (HFi.out g39 _ b39).mono ?_
          rintro e wz ⟨rfl, rfl⟩
          exact hK _ _ rfl hJ (Below.refl _ _)
        · intro ac wd hJ hfr hdep
          have s40 : ac.tmps.getD 40 undef = .int .i64 z := hdep 31 _ 40 (by decide) rfl rfl
          have s40' := slot' s40
          clear hfr hdep
          refine if_wanted rfl (fun Q => op_any (fun K hK => ?_))
          go_simp
          exact hK _ _ rfl hJ (Below.refl _ _)
        intro f w' hJ hR
        have e0 : f 0 = .pointer (some ⟨B0, 5, none⟩) := hR 0 (by decide)
        have e1 : f 1 = .int .i64 n := hR 1 (by decide)
        have e2 : f 2 = .bool true := hR 2 (by decide)
        have e3 : f 3 = .bool true := hR 3 (by decide)
        have e4 : f 4 = undef := hR 4 (by decide)
        have e5 : f 5 = undef := hR 5 (by decide)
        have e6 : f 6 = undef := hR 6 (by decide)
        have e7 : f 7 = undef := hR 7 (by decide)
        have e8 : f 8 = undef := hR 8 (by decide)
        have e9 : f 9 = undef := hR 9 (by decide)
        have e10 : f 10 = (Value.bool true) := hR 10 (by decide)
        have e11 : f 11 = .int .i64 ya := hR 11 (by decide)
        have e12 : f 12 = .agg #[.bool V, .int .i64 bc, .int .i64 rc, .int .i64 m, .int .i64 (dn : Int), .int .i64 n, .int .i64 b, .int .i64 r, .int .i64 d] := hR 12 (by decide)
        have e13 : f 13 = .bool true := hR 13 (by decide)
        have e14 : f 14 = .bool false := hR 14 (by decide)
        have e15 : f 15 = .bool false := hR 15 (by decide)
        have e16 : f 16 = .agg #[.bool V, .int .i64 bc, .int .i64 rc, .int .i64 m, .int .i64 (dn : Int), .int .i64 n, .int .i64 b, .int .i64 r, .int .i64 d] := hR 16 (by decide)
        have e17 : f 17 = .bool true := hR 17 (by decide)
        have e18 : f 18 = .bool false := hR 18 (by decide)
        have e19 : f 19 = .bool false := hR 19 (by decide)
        have e20 : f 20 = .bool false := hR 20 (by decide)
        have e21 : f 21 = .pointer (some ⟨B0, 8, none⟩) := hR 21 (by decide)
        have e22 : f 22 = .int .i64 d := hR 22 (by decide)
        have e23 : f 23 = .pointer (some ⟨B0, 4, none⟩) := hR 23 (by decide)
        have e24 : f 24 = .int .i64 (dn : Int) := hR 24 (by decide)
        have e25 : f 25 = .pointer (some ⟨2, dn, none⟩) := hR 25 (by decide)
        have e26 : f 26 = .int .i64 xd := hR 26 (by decide)
        have e27 : f 27 = .bool (d != xd) := hR 27 (by decide)
        have e28 : f 28 = .bool (d != xd) := hR 28 (by decide)
        have e29 : f 29 = .int .i64 yd := hR 29 (by decide)
        obtain ⟨g30', e30, b30'⟩ := hR 30 (by decide)
        have e31 : f 31 = .int .i64 z := hR 31 (by decide)
        have e32 : f 32 = .int .i64 z := hR 32 (by decide)
        clear hR
        simp only [finA, Act.put, List.setIfInBounds_toArray, List.set_cons_succ, List.set_cons_zero, Nat.reduceAdd, e0, e1, e2, e3, e4, e5, e6, e7, e8, e9, e10, e11, e12, e13, e14, e15, e16, e17, e18, e19, e20, e21, e22, e23, e24, e25, e26, e27, e28, e29, e30, e31, e32]
        clear e0 e1 e2 e3 e4 e5 e6 e7 e8 e9 e10 e11 e12 e13 e14 e15 e16 e17 e18 e19 e20 e21 e22 e23 e24 e25 e26 e27 e28 e29 e30 e31 e32
        have Hb2 := Lib.hid (bnext Hb1.out hJ)
        go_wp2_with fail
        go_ret
        exact ⟨rfl, Hb2.out⟩
  · have hn : decide (n < 0) = false := decide_eq_false hn'
    clear hn'
    cases xf
    · have Hya : Hid (∀ W, Calls Tryd.prog 34 #[.bool (decide (n ≥ xm)), .int .i64 10] W fun e w' => e = .returned (.int .i64 (if (decide (n < 0) || decide (n ≥ xm)) then (10 : Int) else 0)) ∧ w' = W) := by rw [hn]; exact fun W => wrong_any _ 10 W
      have HWd : Hid (∀ W, Calls Tryd.prog 34 #[.bool true, .int .i64 22] W fun e w' => e = .returned (.int .i64 (if (!false || !xg || d != xd) then (22 : Int) else 0)) ∧ w' = W) := fun W => wrong_any _ 22 W
      have HWa := Hya
      clear Hya
      generalize (if (decide (n < 0) || decide (n ≥ xm)) then (10 : Int) else 0) = ya at *
      generalize (if (!false || !xg || d != xd) then (22 : Int) else 0) = yd at *
      have HFi : Hid (∀ (g : Nat) W, W.heap[g]? = some (.cells #[.int .i64 ya, .int .i64 yd] 24 (0, 0)) → Calls Tryd.prog 33 #[.slice (some ⟨g, 0, none⟩) 2 2] W fun e w' => e = .returned (.int .i64 (fstE [ya, yd])) ∧ w' = W) := fun g W hg => first_any [ya, yd] _ 2 W (rd_row hg _ rfl) (by show 2 ≤ 100; omega)
      generalize fstE [ya, yd] = z at *
      go_enter Tryd.func11, Tryd.ntmps11
      go_wp2_with fail
      refine (HC.out _ Hb0.out).mono ?_
      rintro e w1 ⟨rfl, hb1⟩
      have Hb1 := Lib.hid (bnext Hb0.out hb1)
      have HB : Hid (HdAt w1 w.heap.size ⟨V, bc, rc, m, dn, n, b, r, d⟩) := HB0.out.below hb1
      clear HC Hb0 HB0 hb1
      go_wp2_with fail
      obtain ⟨B0, hB0⟩ : ∃ B0, w.heap.size = B0 := ⟨_, rfl⟩
      rw [hB0] at HB ⊢
      refine wp_region_specs [
        Spec.val (.pointer (some ⟨B0, 5, none⟩)),
        Spec.val (.int .i64 n),
        Spec.val (.bool false),
        Spec.val (.bool false),
        Spec.val (.pointer (some ⟨B0, 5, none⟩)),
        Spec.val (.int .i64 n),
        Spec.val (.pointer (some ⟨B0, 0, none⟩)),
        Spec.val (.bool V),
        Spec.val (.int .i64 xm),
        Spec.val (.bool (decide (n ≥ xm))),
        Spec.val (.bool (decide (n ≥ xm))),
        Spec.val (.int .i64 ya),
        Spec.val (.agg #[.bool V, .int .i64 bc, .int .i64 rc, .int .i64 m, .int .i64 (dn : Int), .int .i64 n, .int .i64 b, .int .i64 r, .int .i64 d]),
        Spec.val (.bool false),
        Spec.val (.bool true),
        Spec.val (.bool true),
        Spec.val (undef),
        Spec.val (undef),
        Spec.val (undef),
        Spec.val ((Value.bool true)),
        Spec.val ((Value.bool true)),
        Spec.val (undef),
        Spec.val (undef),
        Spec.val (undef),
        Spec.val (undef),
        Spec.val (undef),
        Spec.val (undef),
        Spec.val (undef),
        Spec.val ((Value.bool true)),
        Spec.val (.int .i64 yd),
        Spec.row #[.int .i64 ya, .int .i64 yd] 24 2,
        Spec.val (.int .i64 z),
        Spec.val (.int .i64 z)] w1 (by kernel_rfl) (by repeat (first | exact Below.refl _ _ | assumption | refine below_drewN ?_ _ | refine Below.drew ?_ | refine Below.alloc ?_ (Nat.le_refl _) _ | refine bal ?_ _ | refine bnext ?_ (by assumption))) (n := 41) rfl (by decide +kernel) ⟨?_, ?_, ?_, ?_, ?_, ?_, ?_, ?_, ?_, ?_, ?_, ?_, ?_, ?_, ?_, ?_, ?_, ?_, ?_, ?_, ?_, ?_, ?_, ?_, ?_, ?_, ?_, ?_, ?_, ?_, ?_, ?_, ?_, trivial⟩ ?_
      · intro ac wd hJ hfr hdep
        have s1 : ac.tmps.getD 1 undef = .pointer (some ⟨B0, 0, none⟩) := (hfr 1 (by decide)).trans rfl
        have s1' := slot' s1
        clear hfr hdep
        refine if_wanted rfl (fun Q => op_any (fun K hK => ?_))
        go_simp
        exact hK _ _ rfl hJ (Below.refl _ _)
      · intro ac wd hJ hfr hdep
        have s9 : ac.tmps.getD 9 undef = .pointer (some ⟨B0, 5, none⟩) := hdep 0 _ 9 (by decide) rfl rfl
        have s9' := slot' s9
        clear hfr hdep
        refine if_wanted rfl (fun Q => op_any (fun K hK => ?_))
        have hq := (HB.out.below hJ).c 5 _ rfl
        go_simp
        exact hK _ _ rfl hJ (Below.refl _ _)
      · intro ac wd hJ hfr hdep
        have s10 : ac.tmps.getD 10 undef = .int .i64 n := hdep 1 _ 10 (by decide) rfl rfl
        have s10' := slot' s10
        clear hfr hdep
        refine if_wanted rfl (fun Q => op_any (fun K hK => ?_))
        go_simp
        exact hK _ _ rfl hJ (Below.refl _ _)
      · intro ac wd hJ hfr hdep
        have s11 : ac.tmps.getD 11 undef = .bool false := hdep 2 _ 11 (by decide) rfl rfl
        have s11' := slot' s11
        clear hfr hdep
        refine if_wanted rfl (fun Q => op_any (fun K hK => ?_))
        go_simp
        exact hK _ _ rfl hJ (Below.refl _ _)
      · intro ac wd hJ hfr hdep
        have sg : ac.tmps.getD 12 undef = .bool false := hdep 3 _ 12 (by decide) rfl rfl
        have s1 : ac.tmps.getD 1 undef = .pointer (some ⟨B0, 0, none⟩) := (hfr 1 (by decide)).trans rfl
        have s1' := slot' s1
        clear hfr hdep
        refine if_wanted (wanted_yes rfl rfl rfl sg) (fun Q => op_any (fun K hK => ?_))
        go_simp
        exact hK _ _ rfl hJ (Below.refl _ _)
      · intro ac wd hJ hfr hdep
        have sg : ac.tmps.getD 12 undef = .bool false := hdep 3 _ 12 (by decide) rfl rfl
        have s13 : ac.tmps.getD 13 undef = .pointer (some ⟨B0, 5, none⟩) := hdep 4 _ 13 (by decide) rfl rfl
        have s13' := slot' s13
        clear hfr hdep
        refine if_wanted (wanted_yes rfl rfl rfl sg) (fun Q => op_any (fun K hK => ?_))
        have hq := (HB.out.below hJ).c 5 _ rfl
        go_simp
        exact hK _ _ rfl hJ (Below.refl _ _)
      · intro ac wd hJ hfr hdep
        have sg : ac.tmps.getD 12 undef = .bool false := hdep 3 _ 12 (by decide) rfl rfl
        have s1 : ac.tmps.getD 1 undef = .pointer (some ⟨B0, 0, none⟩) := (hfr 1 (by decide)).trans rfl
        have s1' := slot' s1
        clear hfr hdep
        refine if_wanted (wanted_yes rfl rfl rfl sg) (fun Q => op_any (fun K hK => ?_))
        go_simp
        exact hK _ _ rfl hJ (Below.refl _ _)
      · intro ac wd hJ hfr hdep
        have sg : ac.tmps.getD 12 undef = .bool false := hdep 3 _ 12 (by decide) rfl rfl
        have s15 : ac.tmps.getD 15 undef = .pointer (some ⟨B0, 0, none⟩) := hdep 6 _ 15 (by decide) rfl rfl
        have s15' := slot' s15
        clear hfr hdep
        refine if_wanted (wanted_yes rfl rfl rfl sg) (fun Q => op_any (fun K hK => ?_))
        have hq := (HB.out.below hJ).c 0 _ rfl
        go_simp
        exact hK _ _ rfl hJ (Below.refl _ _)
      · intro ac wd hJ hfr hdep
        have sg : ac.tmps.getD 12 undef = .bool false := hdep 3 _ 12 (by decide) rfl rfl
        have s16 : ac.tmps.getD 16 undef = .bool V := hdep 7 _ 16 (by decide) rfl rfl
        have s16' := slot' s16
        clear hfr hdep
        refine if_wanted (wanted_yes rfl rfl rfl sg) (fun Q => op_any (fun K hK => ?_))
        go_simp
        refine (HMo.out _).mono ?_
        rintro e wz ⟨rfl, rfl⟩
        exact hK _ _ rfl hJ (Below.refl _ _)
      · intro ac wd hJ hfr hdep
        have sg : ac.tmps.getD 12 undef = .bool false := hdep 3 _ 12 (by decide) rfl rfl
        have s14 : ac.tmps.getD 14 undef = .int .i64 n := hdep 5 _ 14 (by decide) rfl rfl
        have s17 : ac.tmps.getD 17 undef = .int .i64 xm := hdep 8 _ 17 (by decide) rfl rfl
        have s14' := slot' s14
        have s17' := slot' s17
        clear hfr hdep
        refine if_wanted (wanted_yes rfl rfl rfl sg) (fun Q => op_any (fun K hK => ?_))
        go_simp
        exact hK _ _ rfl hJ (Below.refl _ _)
      · intro ac wd hJ hfr hdep
        have s12 : ac.tmps.getD 12 undef = .bool false := hdep 3 _ 12 (by decide) rfl rfl
        have s18 : ac.tmps.getD 18 undef = .bool (decide (n ≥ xm)) := hdep 9 _ 18 (by decide) rfl rfl
        have s12' := slot' s12
        have s18' := slot' s18
        clear hfr hdep
        refine if_wanted rfl (fun Q => op_any (fun K hK => ?_))
        go_simp
        exact hK _ _ rfl hJ (Below.refl _ _)
      · intro ac wd hJ hfr hdep
        have s19 : ac.tmps.getD 19 undef = .bool (decide (n ≥ xm)) := hdep 10 _ 19 (by decide) rfl rfl
        have s19' := slot' s19
        clear hfr hdep
        refine if_wanted rfl (fun Q => op_any (fun K hK => ?_))
        go_simp
        refine (HWa.out _).mono ?_
        rintro e wz ⟨rfl, rfl⟩
        exact hK _ _ rfl hJ (Below.refl _ _)
      · intro ac wd hJ hfr hdep
        have s1 : ac.tmps.getD 1 undef = .pointer (some ⟨B0, 0, none⟩) := (hfr 1 (by decide)).trans rfl
        have s1' := slot' s1
        clear hfr hdep
        refine if_wanted rfl (fun Q => op_any (fun K hK => ?_))
        exact wp_load_row 23 _ rfl B0 s1 23 _ (0, 0) _ (HB.out.below hJ) Tryd.underlying23 rfl (by kernel_rfl) (hK _ _ rfl hJ (Below.refl _ _))
      · intro ac wd hJ hfr hdep
        have s21 : ac.tmps.getD 21 undef = .agg #[.bool V, .int .i64 bc, .int .i64 rc, .int .i64 m, .int .i64 (dn : Int), .int .i64 n, .int .i64 b, .int .i64 r, .int .i64 d] := hdep 12 _ 21 (by decide) rfl rfl
        have s21' := slot' s21
        clear hfr hdep
        refine if_wanted rfl (fun Q => op_any (fun K hK => ?_))
        go_simp
        refine (HBf.out _ (bnext Hb1.out hJ)).mono ?_
        rintro e wz ⟨rfl, hbz⟩
        exact hK _ _ rfl (bnext hJ hbz) hbz
      · intro ac wd hJ hfr hdep
        have s22 : ac.tmps.getD 22 undef = .bool false := hdep 13 _ 22 (by decide) rfl rfl
        have s22' := slot' s22
        clear hfr hdep
        refine if_wanted rfl (fun Q => op_any (fun K hK => ?_))
        go_simp
        exact hK _ _ rfl hJ (Below.refl _ _)
      · intro ac wd hJ hfr hdep
        have s23 : ac.tmps.getD 23 undef = .bool true := hdep 14 _ 23 (by decide) rfl rfl
        have s23' := slot' s23
        clear hfr hdep
        refine if_wanted rfl (fun Q => op_any (fun K hK => ?_))
        go_simp
        exact hK _ _ rfl hJ (Below.refl _ _)
      · intro ac wd hJ hfr hdep
        have sg : ac.tmps.getD 24 undef = .bool true := hdep 15 _ 24 (by decide) rfl rfl
        exact if_unwanted (wanted_no rfl rfl rfl sg (by decide)) rfl
      · intro ac wd hJ hfr hdep
        have sg : ac.tmps.getD 24 undef = .bool true := hdep 15 _ 24 (by decide) rfl rfl
        exact if_unwanted (wanted_no rfl rfl rfl sg (by decide)) rfl
      · intro ac wd hJ hfr hdep
        have sg : ac.tmps.getD 24 undef = .bool true := hdep 15 _ 24 (by decide) rfl rfl
        exact if_unwanted (wanted_no rfl rfl rfl sg (by decide)) rfl
      · intro ac wd hJ hfr hdep
        have s24 : ac.tmps.getD 24 undef = .bool true := hdep 15 _ 24 (by decide) rfl rfl
        have s27 : ac.tmps.getD 27 undef = undef := hdep 18 _ 27 (by decide) rfl rfl
        have s24' := slot' s24
        have s27' := slot' s27
        clear hfr hdep
        refine if_wanted rfl (fun Q => op_any (fun K hK => ?_))
        go_simp
        exact hK _ _ rfl hJ (Below.refl _ _)
      · intro ac wd hJ hfr hdep
        have s28 : ac.tmps.getD 28 undef = (Value.bool true) := hdep 19 _ 28 (by decide) rfl rfl
        have s28' := slot' s28
        clear hfr hdep
        refine if_wanted rfl (fun Q => op_any (fun K hK => ?_))
        go_simp
        exact hK _ _ rfl hJ (Below.refl _ _)
      · intro ac wd hJ hfr hdep
        have sg : ac.tmps.getD 29 undef = .bool true := hdep 20 _ 29 (by decide) rfl rfl
        exact if_unwanted (wanted_no rfl rfl rfl sg (by decide)) rfl
      · intro ac wd hJ hfr hdep
        have sg : ac.tmps.getD 29 undef = .bool true := hdep 20 _ 29 (by decide) rfl rfl
        exact if_unwanted (wanted_no rfl rfl rfl sg (by decide)) rfl
      · intro ac wd hJ hfr hdep
        have sg : ac.tmps.getD 29 undef = .bool true := hdep 20 _ 29 (by decide) rfl rfl
        exact if_unwanted (wanted_no rfl rfl rfl sg (by decide)) rfl
      · intro ac wd hJ hfr hdep
        have sg : ac.tmps.getD 29 undef = .bool true := hdep 20 _ 29 (by decide) rfl rfl
        exact if_unwanted (wanted_no rfl rfl rfl sg (by decide)) rfl
      · intro ac wd hJ hfr hdep
        have sg : ac.tmps.getD 29 undef = .bool true := hdep 20 _ 29 (by decide) rfl rfl
        exact if_unwanted (wanted_no rfl rfl rfl sg (by decide)) rfl
      · intro ac wd hJ hfr hdep
        have sg : ac.tmps.getD 29 undef = .bool true := hdep 20 _ 29 (by decide) rfl rfl
        exact if_unwanted (wanted_no rfl rfl rfl sg (by decide)) rfl
      · intro ac wd hJ hfr hdep
        have sg : ac.tmps.getD 29 undef = .bool true := hdep 20 _ 29 (by decide) rfl rfl
        exact if_unwanted (wanted_no rfl rfl rfl sg (by decide)) rfl
      · intro ac wd hJ hfr hdep
        have s29 : ac.tmps.getD 29 undef = (Value.bool true) := hdep 20 _ 29 (by decide) rfl rfl
        have s36 : ac.tmps.getD 36 undef = undef := hdep 27 _ 36 (by decide) rfl rfl
        have s29' := slot' s29
        have s36' := slot' s36
        clear hfr hdep
        refine if_wanted rfl (fun Q => op_any (fun K hK => ?_))
        go_simp
        exact hK _ _ rfl hJ (Below.refl _ _)
      · intro ac wd hJ hfr hdep
        have s37 : ac.tmps.getD 37 undef = (Value.bool true) := hdep 28 _ 37 (by decide) rfl rfl
        have s37' := slot' s37
        clear hfr hdep
        refine if_wanted rfl (fun Q => op_any (fun K hK => ?_))
        go_simp
        refine (HWd.out _).mono ?_
        rintro e wz ⟨rfl, rfl⟩
        exact hK _ _ rfl hJ (Below.refl _ _)
      · intro ac wd hJ hfr hdep
        have s20 : ac.tmps.getD 20 undef = .int .i64 ya := hdep 11 _ 20 (by decide) rfl rfl
        have s38 : ac.tmps.getD 38 undef = .int .i64 yd := hdep 29 _ 38 (by decide) rfl rfl
        have s20' := slot' s20
        have s38' := slot' s38
        clear hfr hdep
        refine if_wanted rfl (fun Q => op_any (fun K hK => ?_))
        go_simp
        exact hK _ _ ⟨_, rfl, heap_alloc_new wd _⟩ (bal hJ _) (bal (Below.refl _ _) _)
      · intro ac wd hJ hfr hdep
        obtain ⟨g39, s39, b39⟩ := hdep 30 _ 39 (by decide) rfl rfl
        have s39' := slot' s39
        clear hfr hdep
        refine if_wanted rfl (fun Q => op_any (fun K hK => ?_))
        go_simp
        refine (HFi.out g39 _ b39).mono ?_
        rintro e wz ⟨rfl, rfl⟩
        exact hK _ _ rfl hJ (Below.refl _ _)
      · intro ac wd hJ hfr hdep
        have s40 : ac.tmps.getD 40 undef = .int .i64 z := hdep 31 _ 40 (by decide) rfl rfl
        have s40' := slot' s40
        clear hfr hdep
        refine if_wanted rfl (fun Q => op_any (fun K hK => ?_))
        go_simp
        exact hK _ _ rfl hJ (Below.refl _ _)
      intro f w' hJ hR
      have e0 : f 0 = .pointer (some ⟨B0, 5, none⟩) := hR 0 (by decide)
      have e1 : f 1 = .int .i64 n := hR 1 (by decide)
      have e2 : f 2 = .bool false := hR 2 (by decide)
      have e3 : f 3 = .bool false := hR 3 (by decide)
      have e4 : f 4 = .pointer (some ⟨B0, 5, none⟩) := hR 4 (by decide)
      have e5 : f 5 = .int .i64 n := hR 5 (by decide)
      have e6 : f 6 = .pointer (some ⟨B0, 0, none⟩) := hR 6 (by decide)
      have e7 : f 7 = .bool V := hR 7 (by decide)
      have e8 : f 8 = .int .i64 xm := hR 8 (by decide)
      have e9 : f 9 = .bool (decide (n ≥ xm)) := hR 9 (by decide)
      have e10 : f 10 = .bool (decide (n ≥ xm)) := hR 10 (by decide)
      have e11 : f 11 = .int .i64 ya := hR 11 (by decide)
      have e12 : f 12 = .agg #[.bool V, .int .i64 bc, .int .i64 rc, .int .i64 m, .int .i64 (dn : Int), .int .i64 n, .int .i64 b, .int .i64 r, .int .i64 d] := hR 12 (by decide)
      have e13 : f 13 = .bool false := hR 13 (by decide)
      have e14 : f 14 = .bool true := hR 14 (by decide)
      have e15 : f 15 = .bool true := hR 15 (by decide)
      have e16 : f 16 = undef := hR 16 (by decide)
      have e17 : f 17 = undef := hR 17 (by decide)
      have e18 : f 18 = undef := hR 18 (by decide)
      have e19 : f 19 = (Value.bool true) := hR 19 (by decide)
      have e20 : f 20 = (Value.bool true) := hR 20 (by decide)
      have e21 : f 21 = undef := hR 21 (by decide)
      have e22 : f 22 = undef := hR 22 (by decide)
      have e23 : f 23 = undef := hR 23 (by decide)
      have e24 : f 24 = undef := hR 24 (by decide)
      have e25 : f 25 = undef := hR 25 (by decide)
      have e26 : f 26 = undef := hR 26 (by decide)
      have e27 : f 27 = undef := hR 27 (by decide)
      have e28 : f 28 = (Value.bool true) := hR 28 (by decide)
      have e29 : f 29 = .int .i64 yd := hR 29 (by decide)
      obtain ⟨g30', e30, b30'⟩ := hR 30 (by decide)
      have e31 : f 31 = .int .i64 z := hR 31 (by decide)
      have e32 : f 32 = .int .i64 z := hR 32 (by decide)
      clear hR
      simp only [finA, Act.put, List.setIfInBounds_toArray, List.set_cons_succ, List.set_cons_zero, Nat.reduceAdd, e0, e1, e2, e3, e4, e5, e6, e7, e8, e9, e10, e11, e12, e13, e14, e15, e16, e17, e18, e19, e20, e21, e22, e23, e24, e25, e26, e27, e28, e29, e30, e31, e32]
      clear e0 e1 e2 e3 e4 e5 e6 e7 e8 e9 e10 e11 e12 e13 e14 e15 e16 e17 e18 e19 e20 e21 e22 e23 e24 e25 e26 e27 e28 e29 e30 e31 e32
      have Hb2 := Lib.hid (bnext Hb1.out hJ)
      go_wp2_with fail
      go_ret
      exact ⟨rfl, Hb2.out⟩
    · cases xg
      · have Hya : Hid (∀ W, Calls Tryd.prog 34 #[.bool (decide (n ≥ xm)), .int .i64 10] W fun e w' => e = .returned (.int .i64 (if (decide (n < 0) || decide (n ≥ xm)) then (10 : Int) else 0)) ∧ w' = W) := by rw [hn]; exact fun W => wrong_any _ 10 W
        have HWd : Hid (∀ W, Calls Tryd.prog 34 #[.bool true, .int .i64 22] W fun e w' => e = .returned (.int .i64 (if (!true || !false || d != xd) then (22 : Int) else 0)) ∧ w' = W) := fun W => wrong_any _ 22 W
        have HWa := Hya
        clear Hya
        generalize (if (decide (n < 0) || decide (n ≥ xm)) then (10 : Int) else 0) = ya at *
        generalize (if (!true || !false || d != xd) then (22 : Int) else 0) = yd at *
        have HFi : Hid (∀ (g : Nat) W, W.heap[g]? = some (.cells #[.int .i64 ya, .int .i64 yd] 24 (0, 0)) → Calls Tryd.prog 33 #[.slice (some ⟨g, 0, none⟩) 2 2] W fun e w' => e = .returned (.int .i64 (fstE [ya, yd])) ∧ w' = W) := fun g W hg => first_any [ya, yd] _ 2 W (rd_row hg _ rfl) (by show 2 ≤ 100; omega)
        generalize fstE [ya, yd] = z at *
        go_enter Tryd.func11, Tryd.ntmps11
        go_wp2_with fail
        refine (HC.out _ Hb0.out).mono ?_
        rintro e w1 ⟨rfl, hb1⟩
        have Hb1 := Lib.hid (bnext Hb0.out hb1)
        have HB : Hid (HdAt w1 w.heap.size ⟨V, bc, rc, m, dn, n, b, r, d⟩) := HB0.out.below hb1
        clear HC Hb0 HB0 hb1
        go_wp2_with fail
        obtain ⟨B0, hB0⟩ : ∃ B0, w.heap.size = B0 := ⟨_, rfl⟩
        rw [hB0] at HB ⊢
        refine wp_region_specs [
          Spec.val (.pointer (some ⟨B0, 5, none⟩)),
          Spec.val (.int .i64 n),
          Spec.val (.bool false),
          Spec.val (.bool false),
          Spec.val (.pointer (some ⟨B0, 5, none⟩)),
          Spec.val (.int .i64 n),
          Spec.val (.pointer (some ⟨B0, 0, none⟩)),
          Spec.val (.bool V),
          Spec.val (.int .i64 xm),
          Spec.val (.bool (decide (n ≥ xm))),
          Spec.val (.bool (decide (n ≥ xm))),
          Spec.val (.int .i64 ya),
          Spec.val (.agg #[.bool V, .int .i64 bc, .int .i64 rc, .int .i64 m, .int .i64 (dn : Int), .int .i64 n, .int .i64 b, .int .i64 r, .int .i64 d]),
          Spec.val (.bool true),
          Spec.val (.bool false),
          Spec.val (.bool false),
          Spec.val (.agg #[.bool V, .int .i64 bc, .int .i64 rc, .int .i64 m, .int .i64 (dn : Int), .int .i64 n, .int .i64 b, .int .i64 r, .int .i64 d]),
          Spec.val (.bool false),
          Spec.val (.bool true),
          Spec.val (.bool true),
          Spec.val (.bool true),
          Spec.val (undef),
          Spec.val (undef),
          Spec.val (undef),
          Spec.val (undef),
          Spec.val (undef),
          Spec.val (undef),
          Spec.val (undef),
          Spec.val ((Value.bool true)),
          Spec.val (.int .i64 yd),
          Spec.row #[.int .i64 ya, .int .i64 yd] 24 2,
          Spec.val (.int .i64 z),
          Spec.val (.int .i64 z)] w1 (by kernel_rfl) (by repeat (first | exact Below.refl _ _ | assumption | refine below_drewN ?_ _ | refine Below.drew ?_ | refine Below.alloc ?_ (Nat.le_refl _) _ | refine bal ?_ _ | refine bnext ?_ (by assumption))) (n := 41) rfl (by decide +kernel) ⟨?_, ?_, ?_, ?_, ?_, ?_, ?_, ?_, ?_, ?_, ?_, ?_, ?_, ?_, ?_, ?_, ?_, ?_, ?_, ?_, ?_, ?_, ?_, ?_, ?_, ?_, ?_, ?_, ?_, ?_, ?_, ?_, ?_, trivial⟩ ?_
        · intro ac wd hJ hfr hdep
          have s1 : ac.tmps.getD 1 undef = .pointer (some ⟨B0, 0, none⟩) := (hfr 1 (by decide)).trans rfl
          have s1' := slot' s1
          clear hfr hdep
          refine if_wanted rfl (fun Q => op_any (fun K hK => ?_))
          go_simp
          exact hK _ _ rfl hJ (Below.refl _ _)
        · intro ac wd hJ hfr hdep
          have s9 : ac.tmps.getD 9 undef = .pointer (some ⟨B0, 5, none⟩) := hdep 0 _ 9 (by decide) rfl rfl
          have s9' := slot' s9
          clear hfr hdep
          refine if_wanted rfl (fun Q => op_any (fun K hK => ?_))
          have hq := (HB.out.below hJ).c 5 _ rfl
          go_simp
          exact hK _ _ rfl hJ (Below.refl _ _)
        · intro ac wd hJ hfr hdep
          have s10 : ac.tmps.getD 10 undef = .int .i64 n := hdep 1 _ 10 (by decide) rfl rfl
          have s10' := slot' s10
          clear hfr hdep
          refine if_wanted rfl (fun Q => op_any (fun K hK => ?_))
          go_simp
          exact hK _ _ rfl hJ (Below.refl _ _)
        · intro ac wd hJ hfr hdep
          have s11 : ac.tmps.getD 11 undef = .bool false := hdep 2 _ 11 (by decide) rfl rfl
          have s11' := slot' s11
          clear hfr hdep
          refine if_wanted rfl (fun Q => op_any (fun K hK => ?_))
          go_simp
          exact hK _ _ rfl hJ (Below.refl _ _)
        · intro ac wd hJ hfr hdep
          have sg : ac.tmps.getD 12 undef = .bool false := hdep 3 _ 12 (by decide) rfl rfl
          have s1 : ac.tmps.getD 1 undef = .pointer (some ⟨B0, 0, none⟩) := (hfr 1 (by decide)).trans rfl
          have s1' := slot' s1
          clear hfr hdep
          refine if_wanted (wanted_yes rfl rfl rfl sg) (fun Q => op_any (fun K hK => ?_))
          go_simp
          exact hK _ _ rfl hJ (Below.refl _ _)
        · intro ac wd hJ hfr hdep
          have sg : ac.tmps.getD 12 undef = .bool false := hdep 3 _ 12 (by decide) rfl rfl
          have s13 : ac.tmps.getD 13 undef = .pointer (some ⟨B0, 5, none⟩) := hdep 4 _ 13 (by decide) rfl rfl
          have s13' := slot' s13
          clear hfr hdep
          refine if_wanted (wanted_yes rfl rfl rfl sg) (fun Q => op_any (fun K hK => ?_))
          have hq := (HB.out.below hJ).c 5 _ rfl
          go_simp
          exact hK _ _ rfl hJ (Below.refl _ _)
        · intro ac wd hJ hfr hdep
          have sg : ac.tmps.getD 12 undef = .bool false := hdep 3 _ 12 (by decide) rfl rfl
          have s1 : ac.tmps.getD 1 undef = .pointer (some ⟨B0, 0, none⟩) := (hfr 1 (by decide)).trans rfl
          have s1' := slot' s1
          clear hfr hdep
          refine if_wanted (wanted_yes rfl rfl rfl sg) (fun Q => op_any (fun K hK => ?_))
          go_simp
          exact hK _ _ rfl hJ (Below.refl _ _)
        · intro ac wd hJ hfr hdep
          have sg : ac.tmps.getD 12 undef = .bool false := hdep 3 _ 12 (by decide) rfl rfl
          have s15 : ac.tmps.getD 15 undef = .pointer (some ⟨B0, 0, none⟩) := hdep 6 _ 15 (by decide) rfl rfl
          have s15' := slot' s15
          clear hfr hdep
          refine if_wanted (wanted_yes rfl rfl rfl sg) (fun Q => op_any (fun K hK => ?_))
          have hq := (HB.out.below hJ).c 0 _ rfl
          go_simp
          exact hK _ _ rfl hJ (Below.refl _ _)
        · intro ac wd hJ hfr hdep
          have sg : ac.tmps.getD 12 undef = .bool false := hdep 3 _ 12 (by decide) rfl rfl
          have s16 : ac.tmps.getD 16 undef = .bool V := hdep 7 _ 16 (by decide) rfl rfl
          have s16' := slot' s16
          clear hfr hdep
          refine if_wanted (wanted_yes rfl rfl rfl sg) (fun Q => op_any (fun K hK => ?_))
          go_simp
          refine (HMo.out _).mono ?_
          rintro e wz ⟨rfl, rfl⟩
          exact hK _ _ rfl hJ (Below.refl _ _)
        · intro ac wd hJ hfr hdep
          have sg : ac.tmps.getD 12 undef = .bool false := hdep 3 _ 12 (by decide) rfl rfl
          have s14 : ac.tmps.getD 14 undef = .int .i64 n := hdep 5 _ 14 (by decide) rfl rfl
          have s17 : ac.tmps.getD 17 undef = .int .i64 xm := hdep 8 _ 17 (by decide) rfl rfl
          have s14' := slot' s14
          have s17' := slot' s17
          clear hfr hdep
          refine if_wanted (wanted_yes rfl rfl rfl sg) (fun Q => op_any (fun K hK => ?_))
          go_simp
          exact hK _ _ rfl hJ (Below.refl _ _)
        · intro ac wd hJ hfr hdep
          have s12 : ac.tmps.getD 12 undef = .bool false := hdep 3 _ 12 (by decide) rfl rfl
          have s18 : ac.tmps.getD 18 undef = .bool (decide (n ≥ xm)) := hdep 9 _ 18 (by decide) rfl rfl
          have s12' := slot' s12
          have s18' := slot' s18
          clear hfr hdep
          refine if_wanted rfl (fun Q => op_any (fun K hK => ?_))
          go_simp
          exact hK _ _ rfl hJ (Below.refl _ _)
        · intro ac wd hJ hfr hdep
          have s19 : ac.tmps.getD 19 undef = .bool (decide (n ≥ xm)) := hdep 10 _ 19 (by decide) rfl rfl
          have s19' := slot' s19
          clear hfr hdep
          refine if_wanted rfl (fun Q => op_any (fun K hK => ?_))
          go_simp
          refine (HWa.out _).mono ?_
          rintro e wz ⟨rfl, rfl⟩
          exact hK _ _ rfl hJ (Below.refl _ _)
        · intro ac wd hJ hfr hdep
          have s1 : ac.tmps.getD 1 undef = .pointer (some ⟨B0, 0, none⟩) := (hfr 1 (by decide)).trans rfl
          have s1' := slot' s1
          clear hfr hdep
          refine if_wanted rfl (fun Q => op_any (fun K hK => ?_))
          exact wp_load_row 23 _ rfl B0 s1 23 _ (0, 0) _ (HB.out.below hJ) Tryd.underlying23 rfl (by kernel_rfl) (hK _ _ rfl hJ (Below.refl _ _))
        · intro ac wd hJ hfr hdep
          have s21 : ac.tmps.getD 21 undef = .agg #[.bool V, .int .i64 bc, .int .i64 rc, .int .i64 m, .int .i64 (dn : Int), .int .i64 n, .int .i64 b, .int .i64 r, .int .i64 d] := hdep 12 _ 21 (by decide) rfl rfl
          have s21' := slot' s21
          clear hfr hdep
          refine if_wanted rfl (fun Q => op_any (fun K hK => ?_))
          go_simp
          refine (HBf.out _ (bnext Hb1.out hJ)).mono ?_
          rintro e wz ⟨rfl, hbz⟩
          exact hK _ _ rfl (bnext hJ hbz) hbz
        · intro ac wd hJ hfr hdep
          have s22 : ac.tmps.getD 22 undef = .bool true := hdep 13 _ 22 (by decide) rfl rfl
          have s22' := slot' s22
          clear hfr hdep
          refine if_wanted rfl (fun Q => op_any (fun K hK => ?_))
          go_simp
          exact hK _ _ rfl hJ (Below.refl _ _)
        · intro ac wd hJ hfr hdep
          have s23 : ac.tmps.getD 23 undef = .bool false := hdep 14 _ 23 (by decide) rfl rfl
          have s23' := slot' s23
          clear hfr hdep
          refine if_wanted rfl (fun Q => op_any (fun K hK => ?_))
          go_simp
          exact hK _ _ rfl hJ (Below.refl _ _)
        · intro ac wd hJ hfr hdep
          have sg : ac.tmps.getD 24 undef = .bool false := hdep 15 _ 24 (by decide) rfl rfl
          have s1 : ac.tmps.getD 1 undef = .pointer (some ⟨B0, 0, none⟩) := (hfr 1 (by decide)).trans rfl
          have s1' := slot' s1
          clear hfr hdep
          refine if_wanted (wanted_yes rfl rfl rfl sg) (fun Q => op_any (fun K hK => ?_))
          exact wp_load_row 23 _ rfl B0 s1 23 _ (0, 0) _ (HB.out.below hJ) Tryd.underlying23 rfl (by kernel_rfl) (hK _ _ rfl hJ (Below.refl _ _))
        · intro ac wd hJ hfr hdep
          have sg : ac.tmps.getD 24 undef = .bool false := hdep 15 _ 24 (by decide) rfl rfl
          have s25 : ac.tmps.getD 25 undef = .agg #[.bool V, .int .i64 bc, .int .i64 rc, .int .i64 m, .int .i64 (dn : Int), .int .i64 n, .int .i64 b, .int .i64 r, .int .i64 d] := hdep 16 _ 25 (by decide) rfl rfl
          have s25' := slot' s25
          clear hfr hdep
          refine if_wanted (wanted_yes rfl rfl rfl sg) (fun Q => op_any (fun K hK => ?_))
          go_simp
          refine (HRf.out _ (bnext Hb1.out hJ)).mono ?_
          rintro e wz ⟨rfl, hbz⟩
          exact hK _ _ rfl (bnext hJ hbz) hbz
        · intro ac wd hJ hfr hdep
          have sg : ac.tmps.getD 24 undef = .bool false := hdep 15 _ 24 (by decide) rfl rfl
          have s26 : ac.tmps.getD 26 undef = .bool false := hdep 17 _ 26 (by decide) rfl rfl
          have s26' := slot' s26
          clear hfr hdep
          refine if_wanted (wanted_yes rfl rfl rfl sg) (fun Q => op_any (fun K hK => ?_))
          go_simp
          exact hK _ _ rfl hJ (Below.refl _ _)
        · intro ac wd hJ hfr hdep
          have s24 : ac.tmps.getD 24 undef = .bool false := hdep 15 _ 24 (by decide) rfl rfl
          have s27 : ac.tmps.getD 27 undef = .bool true := hdep 18 _ 27 (by decide) rfl rfl
          have s24' := slot' s24
          have s27' := slot' s27
          clear hfr hdep
          refine if_wanted rfl (fun Q => op_any (fun K hK => ?_))
          go_simp
          exact hK _ _ rfl hJ (Below.refl _ _)
        · intro ac wd hJ hfr hdep
          have s28 : ac.tmps.getD 28 undef = .bool true := hdep 19 _ 28 (by decide) rfl rfl
          have s28' := slot' s28
          clear hfr hdep
          refine if_wanted rfl (fun Q => op_any (fun K hK => ?_))
          go_simp
          exact hK _ _ rfl hJ (Below.refl _ _)
        · intro ac wd hJ hfr hdep
          have sg : ac.tmps.getD 29 undef = .bool true := hdep 20 _ 29 (by decide) rfl rfl
          exact if_unwanted (wanted_no rfl rfl rfl sg (by decide)) rfl
        · intro ac wd hJ hfr hdep
          have sg : ac.tmps.getD 29 undef = .bool true := hdep 20 _ 29 (by decide) rfl rfl
          exact if_unwanted (wanted_no rfl rfl rfl sg (by decide)) rfl
        · intro ac wd hJ hfr hdep
          have sg : ac.tmps.getD 29 undef = .bool true := hdep 20 _ 29 (by decide) rfl rfl
          exact if_unwanted (wanted_no rfl rfl rfl sg (by decide)) rfl
        · intro ac wd hJ hfr hdep
          have sg : ac.tmps.getD 29 undef = .bool true := hdep 20 _ 29 (by decide) rfl rfl
          exact if_unwanted (wanted_no rfl rfl rfl sg (by decide)) rfl
        · intro ac wd hJ hfr hdep
          have sg : ac.tmps.getD 29 undef = .bool true := hdep 20 _ 29 (by decide) rfl rfl
          exact if_unwanted (wanted_no rfl rfl rfl sg (by decide)) rfl
        · intro ac wd hJ hfr hdep
          have sg : ac.tmps.getD 29 undef = .bool true := hdep 20 _ 29 (by decide) rfl rfl
          exact if_unwanted (wanted_no rfl rfl rfl sg (by decide)) rfl
        · intro ac wd hJ hfr hdep
          have sg : ac.tmps.getD 29 undef = .bool true := hdep 20 _ 29 (by decide) rfl rfl
          exact if_unwanted (wanted_no rfl rfl rfl sg (by decide)) rfl
        · intro ac wd hJ hfr hdep
          have s29 : ac.tmps.getD 29 undef = .bool true := hdep 20 _ 29 (by decide) rfl rfl
          have s36 : ac.tmps.getD 36 undef = undef := hdep 27 _ 36 (by decide) rfl rfl
          have s29' := slot' s29
          have s36' := slot' s36
          clear hfr hdep
          refine if_wanted rfl (fun Q => op_any (fun K hK => ?_))
          go_simp
          exact hK _ _ rfl hJ (Below.refl _ _)
        · intro ac wd hJ hfr hdep
          have s37 : ac.tmps.getD 37 undef = (Value.bool true) := hdep 28 _ 37 (by decide) rfl rfl
          have s37' := slot' s37
          clear hfr hdep
          refine if_wanted rfl (fun Q => op_any (fun K hK => ?_))
          go_simp
          refine (HWd.out _).mono ?_
          rintro e wz ⟨rfl, rfl⟩
          exact hK _ _ rfl hJ (Below.refl _ _)
        · intro ac wd hJ hfr hdep
          have s20 : ac.tmps.getD 20 undef = .int .i64 ya := hdep 11 _ 20 (by decide) rfl rfl
          have s38 : ac.tmps.getD 38 undef = .int .i64 yd := hdep 29 _ 38 (by decide) rfl rfl
          have s20' := slot' s20
          have s38' := slot' s38
          clear hfr hdep
          refine if_wanted rfl (fun Q => op_any (fun K hK => ?_))
          go_simp
          exact hK _ _ ⟨_, rfl, heap_alloc_new wd _⟩ (bal hJ _) (bal (Below.refl _ _) _)
        · intro ac wd hJ hfr hdep
          obtain ⟨g39, s39, b39⟩ := hdep 30 _ 39 (by decide) rfl rfl
          have s39' := slot' s39
          clear hfr hdep
          refine if_wanted rfl (fun Q => op_any (fun K hK => ?_))
          go_simp
          refine (HFi.out g39 _ b39).mono ?_
          rintro e wz ⟨rfl, rfl⟩
          exact hK _ _ rfl hJ (Below.refl _ _)
        · intro ac wd hJ hfr hdep
          have s40 : ac.tmps.getD 40 undef = .int .i64 z := hdep 31 _ 40 (by decide) rfl rfl
          have s40' := slot' s40
          clear hfr hdep
          refine if_wanted rfl (fun Q => op_any (fun K hK => ?_))
          go_simp
          exact hK _ _ rfl hJ (Below.refl _ _)
        intro f w' hJ hR
        have e0 : f 0 = .pointer (some ⟨B0, 5, none⟩) := hR 0 (by decide)
        have e1 : f 1 = .int .i64 n := hR 1 (by decide)
        have e2 : f 2 = .bool false := hR 2 (by decide)
        have e3 : f 3 = .bool false := hR 3 (by decide)
        have e4 : f 4 = .pointer (some ⟨B0, 5, none⟩) := hR 4 (by decide)
        have e5 : f 5 = .int .i64 n := hR 5 (by decide)
        have e6 : f 6 = .pointer (some ⟨B0, 0, none⟩) := hR 6 (by decide)
        have e7 : f 7 = .bool V := hR 7 (by decide)
        have e8 : f 8 = .int .i64 xm := hR 8 (by decide)
        have e9 : f 9 = .bool (decide (n ≥ xm)) := hR 9 (by decide)
        have e10 : f 10 = .bool (decide (n ≥ xm)) := hR 10 (by decide)
        have e11 : f 11 = .int .i64 ya := hR 11 (by decide)
        have e12 : f 12 = .agg #[.bool V, .int .i64 bc, .int .i64 rc, .int .i64 m, .int .i64 (dn : Int), .int .i64 n, .int .i64 b, .int .i64 r, .int .i64 d] := hR 12 (by decide)
        have e13 : f 13 = .bool true := hR 13 (by decide)
        have e14 : f 14 = .bool false := hR 14 (by decide)
        have e15 : f 15 = .bool false := hR 15 (by decide)
        have e16 : f 16 = .agg #[.bool V, .int .i64 bc, .int .i64 rc, .int .i64 m, .int .i64 (dn : Int), .int .i64 n, .int .i64 b, .int .i64 r, .int .i64 d] := hR 16 (by decide)
        have e17 : f 17 = .bool false := hR 17 (by decide)
        have e18 : f 18 = .bool true := hR 18 (by decide)
        have e19 : f 19 = .bool true := hR 19 (by decide)
        have e20 : f 20 = .bool true := hR 20 (by decide)
        have e21 : f 21 = undef := hR 21 (by decide)
        have e22 : f 22 = undef := hR 22 (by decide)
        have e23 : f 23 = undef := hR 23 (by decide)
        have e24 : f 24 = undef := hR 24 (by decide)
        have e25 : f 25 = undef := hR 25 (by decide)
        have e26 : f 26 = undef := hR 26 (by decide)
        have e27 : f 27 = undef := hR 27 (by decide)
        have e28 : f 28 = (Value.bool true) := hR 28 (by decide)
        have e29 : f 29 = .int .i64 yd := hR 29 (by decide)
        obtain ⟨g30', e30, b30'⟩ := hR 30 (by decide)
        have e31 : f 31 = .int .i64 z := hR 31 (by decide)
        have e32 : f 32 = .int .i64 z := hR 32 (by decide)
        clear hR
        simp only [finA, Act.put, List.setIfInBounds_toArray, List.set_cons_succ, List.set_cons_zero, Nat.reduceAdd, e0, e1, e2, e3, e4, e5, e6, e7, e8, e9, e10, e11, e12, e13, e14, e15, e16, e17, e18, e19, e20, e21, e22, e23, e24, e25, e26, e27, e28, e29, e30, e31, e32]
        clear e0 e1 e2 e3 e4 e5 e6 e7 e8 e9 e10 e11 e12 e13 e14 e15 e16 e17 e18 e19 e20 e21 e22 e23 e24 e25 e26 e27 e28 e29 e30 e31 e32
        have Hb2 := Lib.hid (bnext Hb1.out hJ)
        go_wp2_with fail
        go_ret
        exact ⟨rfl, Hb2.out⟩
      · have Hya : Hid (∀ W, Calls Tryd.prog 34 #[.bool (decide (n ≥ xm)), .int .i64 10] W fun e w' => e = .returned (.int .i64 (if (decide (n < 0) || decide (n ≥ xm)) then (10 : Int) else 0)) ∧ w' = W) := by rw [hn]; exact fun W => wrong_any _ 10 W
        have HWd : Hid (∀ W, Calls Tryd.prog 34 #[.bool (d != xd), .int .i64 22] W fun e w' => e = .returned (.int .i64 (if (!true || !true || d != xd) then (22 : Int) else 0)) ∧ w' = W) := fun W => wrong_any _ 22 W
        have HWa := Hya
        clear Hya
        generalize (if (decide (n < 0) || decide (n ≥ xm)) then (10 : Int) else 0) = ya at *
        generalize (if (!true || !true || d != xd) then (22 : Int) else 0) = yd at *
        have HFi : Hid (∀ (g : Nat) W, W.heap[g]? = some (.cells #[.int .i64 ya, .int .i64 yd] 24 (0, 0)) → Calls Tryd.prog 33 #[.slice (some ⟨g, 0, none⟩) 2 2] W fun e w' => e = .returned (.int .i64 (fstE [ya, yd])) ∧ w' = W) := fun g W hg => first_any [ya, yd] _ 2 W (rd_row hg _ rfl) (by show 2 ≤ 100; omega)
        generalize fstE [ya, yd] = z at *
        go_enter Tryd.func11, Tryd.ntmps11
        go_wp2_with fail
        refine (HC.out _ Hb0.out).mono ?_
        rintro e w1 ⟨rfl, hb1⟩
        have Hb1 := Lib.hid (bnext Hb0.out hb1)
        have HB : Hid (HdAt w1 w.heap.size ⟨V, bc, rc, m, dn, n, b, r, d⟩) := HB0.out.below hb1
        clear HC Hb0 HB0 hb1
        go_wp2_with fail
        obtain ⟨B0, hB0⟩ : ∃ B0, w.heap.size = B0 := ⟨_, rfl⟩
        rw [hB0] at HB ⊢
        refine wp_region_specs [
          Spec.val (.pointer (some ⟨B0, 5, none⟩)),
          Spec.val (.int .i64 n),
          Spec.val (.bool false),
          Spec.val (.bool false),
          Spec.val (.pointer (some ⟨B0, 5, none⟩)),
          Spec.val (.int .i64 n),
          Spec.val (.pointer (some ⟨B0, 0, none⟩)),
          Spec.val (.bool V),
          Spec.val (.int .i64 xm),
          Spec.val (.bool (decide (n ≥ xm))),
          Spec.val (.bool (decide (n ≥ xm))),
          Spec.val (.int .i64 ya),
          Spec.val (.agg #[.bool V, .int .i64 bc, .int .i64 rc, .int .i64 m, .int .i64 (dn : Int), .int .i64 n, .int .i64 b, .int .i64 r, .int .i64 d]),
          Spec.val (.bool true),
          Spec.val (.bool false),
          Spec.val (.bool false),
          Spec.val (.agg #[.bool V, .int .i64 bc, .int .i64 rc, .int .i64 m, .int .i64 (dn : Int), .int .i64 n, .int .i64 b, .int .i64 r, .int .i64 d]),
          Spec.val (.bool true),
          Spec.val (.bool false),
          Spec.val (.bool false),
          Spec.val (.bool false),
          Spec.val (.pointer (some ⟨B0, 8, none⟩)),
          Spec.val (.int .i64 d),
          Spec.val (.pointer (some ⟨B0, 4, none⟩)),
          Spec.val (.int .i64 (dn : Int)),
          Spec.val (.pointer (some ⟨2, dn, none⟩)),
          Spec.val (.int .i64 xd),
          Spec.val (.bool (d != xd)),
          Spec.val (.bool (d != xd)),
          Spec.val (.int .i64 yd),
          Spec.row #[.int .i64 ya, .int .i64 yd] 24 2,
          Spec.val (.int .i64 z),
          Spec.val (.int .i64 z)] w1 (by kernel_rfl) (by repeat (first | exact Below.refl _ _ | assumption | refine below_drewN ?_ _ | refine Below.drew ?_ | refine Below.alloc ?_ (Nat.le_refl _) _ | refine bal ?_ _ | refine bnext ?_ (by assumption))) (n := 41) rfl (by decide +kernel) ⟨?_, ?_, ?_, ?_, ?_, ?_, ?_, ?_, ?_, ?_, ?_, ?_, ?_, ?_, ?_, ?_, ?_, ?_, ?_, ?_, ?_, ?_, ?_, ?_, ?_, ?_, ?_, ?_, ?_, ?_, ?_, ?_, ?_, trivial⟩ ?_
        · intro ac wd hJ hfr hdep
          have s1 : ac.tmps.getD 1 undef = .pointer (some ⟨B0, 0, none⟩) := (hfr 1 (by decide)).trans rfl
          have s1' := slot' s1
          clear hfr hdep
          refine if_wanted rfl (fun Q => op_any (fun K hK => ?_))
          go_simp
          exact hK _ _ rfl hJ (Below.refl _ _)
        · intro ac wd hJ hfr hdep
          have s9 : ac.tmps.getD 9 undef = .pointer (some ⟨B0, 5, none⟩) := hdep 0 _ 9 (by decide) rfl rfl
          have s9' := slot' s9
          clear hfr hdep
          refine if_wanted rfl (fun Q => op_any (fun K hK => ?_))
          have hq := (HB.out.below hJ).c 5 _ rfl
          go_simp
          exact hK _ _ rfl hJ (Below.refl _ _)
        · intro ac wd hJ hfr hdep
          have s10 : ac.tmps.getD 10 undef = .int .i64 n := hdep 1 _ 10 (by decide) rfl rfl
          have s10' := slot' s10
          clear hfr hdep
          refine if_wanted rfl (fun Q => op_any (fun K hK => ?_))
          go_simp
          exact hK _ _ rfl hJ (Below.refl _ _)
        · intro ac wd hJ hfr hdep
          have s11 : ac.tmps.getD 11 undef = .bool false := hdep 2 _ 11 (by decide) rfl rfl
          have s11' := slot' s11
          clear hfr hdep
          refine if_wanted rfl (fun Q => op_any (fun K hK => ?_))
          go_simp
          exact hK _ _ rfl hJ (Below.refl _ _)
        · intro ac wd hJ hfr hdep
          have sg : ac.tmps.getD 12 undef = .bool false := hdep 3 _ 12 (by decide) rfl rfl
          have s1 : ac.tmps.getD 1 undef = .pointer (some ⟨B0, 0, none⟩) := (hfr 1 (by decide)).trans rfl
          have s1' := slot' s1
          clear hfr hdep
          refine if_wanted (wanted_yes rfl rfl rfl sg) (fun Q => op_any (fun K hK => ?_))
          go_simp
          exact hK _ _ rfl hJ (Below.refl _ _)
        · intro ac wd hJ hfr hdep
          have sg : ac.tmps.getD 12 undef = .bool false := hdep 3 _ 12 (by decide) rfl rfl
          have s13 : ac.tmps.getD 13 undef = .pointer (some ⟨B0, 5, none⟩) := hdep 4 _ 13 (by decide) rfl rfl
          have s13' := slot' s13
          clear hfr hdep
          refine if_wanted (wanted_yes rfl rfl rfl sg) (fun Q => op_any (fun K hK => ?_))
          have hq := (HB.out.below hJ).c 5 _ rfl
          go_simp
          exact hK _ _ rfl hJ (Below.refl _ _)
        · intro ac wd hJ hfr hdep
          have sg : ac.tmps.getD 12 undef = .bool false := hdep 3 _ 12 (by decide) rfl rfl
          have s1 : ac.tmps.getD 1 undef = .pointer (some ⟨B0, 0, none⟩) := (hfr 1 (by decide)).trans rfl
          have s1' := slot' s1
          clear hfr hdep
          refine if_wanted (wanted_yes rfl rfl rfl sg) (fun Q => op_any (fun K hK => ?_))
          go_simp
          exact hK _ _ rfl hJ (Below.refl _ _)
        · intro ac wd hJ hfr hdep
          have sg : ac.tmps.getD 12 undef = .bool false := hdep 3 _ 12 (by decide) rfl rfl
          have s15 : ac.tmps.getD 15 undef = .pointer (some ⟨B0, 0, none⟩) := hdep 6 _ 15 (by decide) rfl rfl
          have s15' := slot' s15
          clear hfr hdep
          refine if_wanted (wanted_yes rfl rfl rfl sg) (fun Q => op_any (fun K hK => ?_))
          have hq := (HB.out.below hJ).c 0 _ rfl
          go_simp
          exact hK _ _ rfl hJ (Below.refl _ _)
        · intro ac wd hJ hfr hdep
          have sg : ac.tmps.getD 12 undef = .bool false := hdep 3 _ 12 (by decide) rfl rfl
          have s16 : ac.tmps.getD 16 undef = .bool V := hdep 7 _ 16 (by decide) rfl rfl
          have s16' := slot' s16
          clear hfr hdep
          refine if_wanted (wanted_yes rfl rfl rfl sg) (fun Q => op_any (fun K hK => ?_))
          go_simp
          refine (HMo.out _).mono ?_
          rintro e wz ⟨rfl, rfl⟩
          exact hK _ _ rfl hJ (Below.refl _ _)
        · intro ac wd hJ hfr hdep
          have sg : ac.tmps.getD 12 undef = .bool false := hdep 3 _ 12 (by decide) rfl rfl
          have s14 : ac.tmps.getD 14 undef = .int .i64 n := hdep 5 _ 14 (by decide) rfl rfl
          have s17 : ac.tmps.getD 17 undef = .int .i64 xm := hdep 8 _ 17 (by decide) rfl rfl
          have s14' := slot' s14
          have s17' := slot' s17
          clear hfr hdep
          refine if_wanted (wanted_yes rfl rfl rfl sg) (fun Q => op_any (fun K hK => ?_))
          go_simp
          exact hK _ _ rfl hJ (Below.refl _ _)
        · intro ac wd hJ hfr hdep
          have s12 : ac.tmps.getD 12 undef = .bool false := hdep 3 _ 12 (by decide) rfl rfl
          have s18 : ac.tmps.getD 18 undef = .bool (decide (n ≥ xm)) := hdep 9 _ 18 (by decide) rfl rfl
          have s12' := slot' s12
          have s18' := slot' s18
          clear hfr hdep
          refine if_wanted rfl (fun Q => op_any (fun K hK => ?_))
          go_simp
          exact hK _ _ rfl hJ (Below.refl _ _)
        · intro ac wd hJ hfr hdep
          have s19 : ac.tmps.getD 19 undef = .bool (decide (n ≥ xm)) := hdep 10 _ 19 (by decide) rfl rfl
          have s19' := slot' s19
          clear hfr hdep
          refine if_wanted rfl (fun Q => op_any (fun K hK => ?_))
          go_simp
          refine (HWa.out _).mono ?_
          rintro e wz ⟨rfl, rfl⟩
          exact hK _ _ rfl hJ (Below.refl _ _)
        · intro ac wd hJ hfr hdep
          have s1 : ac.tmps.getD 1 undef = .pointer (some ⟨B0, 0, none⟩) := (hfr 1 (by decide)).trans rfl
          have s1' := slot' s1
          clear hfr hdep
          refine if_wanted rfl (fun Q => op_any (fun K hK => ?_))
          exact wp_load_row 23 _ rfl B0 s1 23 _ (0, 0) _ (HB.out.below hJ) Tryd.underlying23 rfl (by kernel_rfl) (hK _ _ rfl hJ (Below.refl _ _))
        · intro ac wd hJ hfr hdep
          have s21 : ac.tmps.getD 21 undef = .agg #[.bool V, .int .i64 bc, .int .i64 rc, .int .i64 m, .int .i64 (dn : Int), .int .i64 n, .int .i64 b, .int .i64 r, .int .i64 d] := hdep 12 _ 21 (by decide) rfl rfl
          have s21' := slot' s21
          clear hfr hdep
          refine if_wanted rfl (fun Q => op_any (fun K hK => ?_))
          go_simp
          refine (HBf.out _ (bnext Hb1.out hJ)).mono ?_
          rintro e wz ⟨rfl, hbz⟩
          exact hK _ _ rfl (bnext hJ hbz) hbz
        · intro ac wd hJ hfr hdep
          have s22 : ac.tmps.getD 22 undef = .bool true := hdep 13 _ 22 (by decide) rfl rfl
          have s22' := slot' s22
          clear hfr hdep
          refine if_wanted rfl (fun Q => op_any (fun K hK => ?_))
          go_simp
          exact hK _ _ rfl hJ (Below.refl _ _)
        · intro ac wd hJ hfr hdep
          have s23 : ac.tmps.getD 23 undef = .bool false := hdep 14 _ 23 (by decide) rfl rfl
          have s23' := slot' s23
          clear hfr hdep
          refine if_wanted rfl (fun Q => op_any (fun K hK => ?_))
          go_simp
          exact hK _ _ rfl hJ (Below.refl _ _)
        · intro ac wd hJ hfr hdep
          have sg : ac.tmps.getD 24 undef = .bool false := hdep 15 _ 24 (by decide) rfl rfl
          have s1 : ac.tmps.getD 1 undef = .pointer (some ⟨B0, 0, none⟩) := (hfr 1 (by decide)).trans rfl
          have s1' := slot' s1
          clear hfr hdep
          refine if_wanted (wanted_yes rfl rfl rfl sg) (fun Q => op_any (fun K hK => ?_))
          exact wp_load_row 23 _ rfl B0 s1 23 _ (0, 0) _ (HB.out.below hJ) Tryd.underlying23 rfl (by kernel_rfl) (hK _ _ rfl hJ (Below.refl _ _))
        · intro ac wd hJ hfr hdep
          have sg : ac.tmps.getD 24 undef = .bool false := hdep 15 _ 24 (by decide) rfl rfl
          have s25 : ac.tmps.getD 25 undef = .agg #[.bool V, .int .i64 bc, .int .i64 rc, .int .i64 m, .int .i64 (dn : Int), .int .i64 n, .int .i64 b, .int .i64 r, .int .i64 d] := hdep 16 _ 25 (by decide) rfl rfl
          have s25' := slot' s25
          clear hfr hdep
          refine if_wanted (wanted_yes rfl rfl rfl sg) (fun Q => op_any (fun K hK => ?_))
          go_simp
          refine (HRf.out _ (bnext Hb1.out hJ)).mono ?_
          rintro e wz ⟨rfl, hbz⟩
          exact hK _ _ rfl (bnext hJ hbz) hbz
        · intro ac wd hJ hfr hdep
          have sg : ac.tmps.getD 24 undef = .bool false := hdep 15 _ 24 (by decide) rfl rfl
          have s26 : ac.tmps.getD 26 undef = .bool true := hdep 17 _ 26 (by decide) rfl rfl
          have s26' := slot' s26
          clear hfr hdep
          refine if_wanted (wanted_yes rfl rfl rfl sg) (fun Q => op_any (fun K hK => ?_))
          go_simp
          exact hK _ _ rfl hJ (Below.refl _ _)
        · intro ac wd hJ hfr hdep
          have s24 : ac.tmps.getD 24 undef = .bool false := hdep 15 _ 24 (by decide) rfl rfl
          have s27 : ac.tmps.getD 27 undef = .bool false := hdep 18 _ 27 (by decide) rfl rfl
          have s24' := slot' s24
          have s27' := slot' s27
          clear hfr hdep
          refine if_wanted rfl (fun Q => op_any (fun K hK => ?_))
          go_simp
          exact hK _ _ rfl hJ (Below.refl _ _)
        · intro ac wd hJ hfr hdep
          have s28 : ac.tmps.getD 28 undef = .bool false := hdep 19 _ 28 (by decide) rfl rfl
          have s28' := slot' s28
          clear hfr hdep
          refine if_wanted rfl (fun Q => op_any (fun K hK => ?_))
          go_simp
          exact hK _ _ rfl hJ (Below.refl _ _)
        · intro ac wd hJ hfr hdep
          have sg : ac.tmps.getD 29 undef = .bool false := hdep 20 _ 29 (by decide) rfl rfl
          have s1 : ac.tmps.getD 1 undef = .pointer (some ⟨B0, 0, none⟩) := (hfr 1 (by decide)).trans rfl
          have s1' := slot' s1
          clear hfr hdep
          refine if_wanted (wanted_yes rfl rfl rfl sg) (fun Q => op_any (fun K hK => ?_))
          go_simp
          exact hK _ _ rfl hJ (Below.refl _ _)
        · intro ac wd hJ hfr hdep
          have sg : ac.tmps.getD 29 undef = .bool false := hdep 20 _ 29 (by decide) rfl rfl
          have s30 : ac.tmps.getD 30 undef = .pointer (some ⟨B0, 8, none⟩) := hdep 21 _ 30 (by decide) rfl rfl
          have s30' := slot' s30
          clear hfr hdep
          refine if_wanted (wanted_yes rfl rfl rfl sg) (fun Q => op_any (fun K hK => ?_))
          have hq := (HB.out.below hJ).c 8 _ rfl
          go_simp
          exact hK _ _ rfl hJ (Below.refl _ _)
        · intro ac wd hJ hfr hdep
          have sg : ac.tmps.getD 29 undef = .bool false := hdep 20 _ 29 (by decide) rfl rfl
          have s1 : ac.tmps.getD 1 undef = .pointer (some ⟨B0, 0, none⟩) := (hfr 1 (by decide)).trans rfl
          have s1' := slot' s1
          clear hfr hdep
          refine if_wanted (wanted_yes rfl rfl rfl sg) (fun Q => op_any (fun K hK => ?_))
          go_simp
          exact hK _ _ rfl hJ (Below.refl _ _)
        · intro ac wd hJ hfr hdep
          have sg : ac.tmps.getD 29 undef = .bool false := hdep 20 _ 29 (by decide) rfl rfl
          have s32 : ac.tmps.getD 32 undef = .pointer (some ⟨B0, 4, none⟩) := hdep 23 _ 32 (by decide) rfl rfl
          have s32' := slot' s32
          clear hfr hdep
          refine if_wanted (wanted_yes rfl rfl rfl sg) (fun Q => op_any (fun K hK => ?_))
          have hq := (HB.out.below hJ).c 4 _ rfl
          go_simp
          exact hK _ _ rfl hJ (Below.refl _ _)
        · intro ac wd hJ hfr hdep
          have sg : ac.tmps.getD 29 undef = .bool false := hdep 20 _ 29 (by decide) rfl rfl
          have s33 : ac.tmps.getD 33 undef = .int .i64 (dn : Int) := hdep 24 _ 33 (by decide) rfl rfl
          have s33' := slot' s33
          clear hfr hdep
          refine if_wanted (wanted_yes rfl rfl rfl sg) (fun Q => op_any (fun K hK => ?_))
          go_simp
          rw [if_pos (show ((dn : Nat) : Int) < 8 from by omega)]
          exact hK _ _ rfl hJ (Below.refl _ _)
        · intro ac wd hJ hfr hdep
          have sg : ac.tmps.getD 29 undef = .bool false := hdep 20 _ 29 (by decide) rfl rfl
          have s34 : ac.tmps.getD 34 undef = .pointer (some ⟨2, dn, none⟩) := hdep 25 _ 34 (by decide) rfl rfl
          have s34' := slot' s34
          clear hfr hdep
          refine if_wanted (wanted_yes rfl rfl rfl sg) (fun Q => op_any (fun K hK => ?_))
          have hq := (HDc.out _ (bnext Hb1.out hJ))
          go_simp
          exact hK _ _ rfl hJ (Below.refl _ _)
        · intro ac wd hJ hfr hdep
          have sg : ac.tmps.getD 29 undef = .bool false := hdep 20 _ 29 (by decide) rfl rfl
          have s31 : ac.tmps.getD 31 undef = .int .i64 d := hdep 22 _ 31 (by decide) rfl rfl
          have s35 : ac.tmps.getD 35 undef = .int .i64 xd := hdep 26 _ 35 (by decide) rfl rfl
          have s31' := slot' s31
          have s35' := slot' s35
          clear hfr hdep
          refine if_wanted (wanted_yes rfl rfl rfl sg) (fun Q => op_any (fun K hK => ?_))
          go_simp
          exact hK _ _ rfl hJ (Below.refl _ _)
        · intro ac wd hJ hfr hdep
          have s29 : ac.tmps.getD 29 undef = .bool false := hdep 20 _ 29 (by decide) rfl rfl
          have s36 : ac.tmps.getD 36 undef = .bool (d != xd) := hdep 27 _ 36 (by decide) rfl rfl
          have s29' := slot' s29
          have s36' := slot' s36
          clear hfr hdep
          refine if_wanted rfl (fun Q => op_any (fun K hK => ?_))
          go_simp
          exact hK _ _ rfl hJ (Below.refl _ _)
        · intro ac wd hJ hfr hdep
          have s37 : ac.tmps.getD 37 undef = .bool (d != xd) := hdep 28 _ 37 (by decide) rfl rfl
          have s37' := slot' s37
          clear hfr hdep
          refine if_wanted rfl (fun Q => op_any (fun K hK => ?_))
          go_simp
          refine (HWd.out _).mono ?_
          rintro e wz ⟨rfl, rfl⟩
          exact hK _ _ rfl hJ (Below.refl _ _)
        · intro ac wd hJ hfr hdep
          have s20 : ac.tmps.getD 20 undef = .int .i64 ya := hdep 11 _ 20 (by decide) rfl rfl
          have s38 : ac.tmps.getD 38 undef = .int .i64 yd := hdep 29 _ 38 (by decide) rfl rfl
          have s20' := slot' s20
          have s38' := slot' s38
          clear hfr hdep
          refine if_wanted rfl (fun Q => op_any (fun K hK => ?_))
          go_simp
          exact hK _ _ ⟨_, rfl, heap_alloc_new wd _⟩ (bal hJ _) (bal (Below.refl _ _) _)
        · intro ac wd hJ hfr hdep
          obtain ⟨g39, s39, b39⟩ := hdep 30 _ 39 (by decide) rfl rfl
          have s39' := slot' s39
          clear hfr hdep
          refine if_wanted rfl (fun Q => op_any (fun K hK => ?_))
          go_simp
          refine (HFi.out g39 _ b39).mono ?_
          rintro e wz ⟨rfl, rfl⟩
          exact hK _ _ rfl hJ (Below.refl _ _)
        · intro ac wd hJ hfr hdep
          have s40 : ac.tmps.getD 40 undef = .int .i64 z := hdep 31 _ 40 (by decide) rfl rfl
          have s40' := slot' s40
          clear hfr hdep
          refine if_wanted rfl (fun Q => op_any (fun K hK => ?_))
          go_simp
          exact hK _ _ rfl hJ (Below.refl _ _)
        intro f w' hJ hR
        have e0 : f 0 = .pointer (some ⟨B0, 5, none⟩) := hR 0 (by decide)
        have e1 : f 1 = .int .i64 n := hR 1 (by decide)
        have e2 : f 2 = .bool false := hR 2 (by decide)
        have e3 : f 3 = .bool false := hR 3 (by decide)
        have e4 : f 4 = .pointer (some ⟨B0, 5, none⟩) := hR 4 (by decide)
        have e5 : f 5 = .int .i64 n := hR 5 (by decide)
        have e6 : f 6 = .pointer (some ⟨B0, 0, none⟩) := hR 6 (by decide)
        have e7 : f 7 = .bool V := hR 7 (by decide)
        have e8 : f 8 = .int .i64 xm := hR 8 (by decide)
        have e9 : f 9 = .bool (decide (n ≥ xm)) := hR 9 (by decide)
        have e10 : f 10 = .bool (decide (n ≥ xm)) := hR 10 (by decide)
        have e11 : f 11 = .int .i64 ya := hR 11 (by decide)
        have e12 : f 12 = .agg #[.bool V, .int .i64 bc, .int .i64 rc, .int .i64 m, .int .i64 (dn : Int), .int .i64 n, .int .i64 b, .int .i64 r, .int .i64 d] := hR 12 (by decide)
        have e13 : f 13 = .bool true := hR 13 (by decide)
        have e14 : f 14 = .bool false := hR 14 (by decide)
        have e15 : f 15 = .bool false := hR 15 (by decide)
        have e16 : f 16 = .agg #[.bool V, .int .i64 bc, .int .i64 rc, .int .i64 m, .int .i64 (dn : Int), .int .i64 n, .int .i64 b, .int .i64 r, .int .i64 d] := hR 16 (by decide)
        have e17 : f 17 = .bool true := hR 17 (by decide)
        have e18 : f 18 = .bool false := hR 18 (by decide)
        have e19 : f 19 = .bool false := hR 19 (by decide)
        have e20 : f 20 = .bool false := hR 20 (by decide)
        have e21 : f 21 = .pointer (some ⟨B0, 8, none⟩) := hR 21 (by decide)
        have e22 : f 22 = .int .i64 d := hR 22 (by decide)
        have e23 : f 23 = .pointer (some ⟨B0, 4, none⟩) := hR 23 (by decide)
        have e24 : f 24 = .int .i64 (dn : Int) := hR 24 (by decide)
        have e25 : f 25 = .pointer (some ⟨2, dn, none⟩) := hR 25 (by decide)
        have e26 : f 26 = .int .i64 xd := hR 26 (by decide)
        have e27 : f 27 = .bool (d != xd) := hR 27 (by decide)
        have e28 : f 28 = .bool (d != xd) := hR 28 (by decide)
        have e29 : f 29 = .int .i64 yd := hR 29 (by decide)
        obtain ⟨g30', e30, b30'⟩ := hR 30 (by decide)
        have e31 : f 31 = .int .i64 z := hR 31 (by decide)
        have e32 : f 32 = .int .i64 z := hR 32 (by decide)
        clear hR
        simp only [finA, Act.put, List.setIfInBounds_toArray, List.set_cons_succ, List.set_cons_zero, Nat.reduceAdd, e0, e1, e2, e3, e4, e5, e6, e7, e8, e9, e10, e11, e12, e13, e14, e15, e16, e17, e18, e19, e20, e21, e22, e23, e24, e25, e26, e27, e28, e29, e30, e31, e32]
        clear e0 e1 e2 e3 e4 e5 e6 e7 e8 e9 e10 e11 e12 e13 e14 e15 e16 e17 e18 e19 e20 e21 e22 e23 e24 e25 e26 e27 e28 e29 e30 e31 e32
        have Hb2 := Lib.hid (bnext Hb1.out hJ)
        go_wp2_with fail
        go_ret
        exact ⟨rfl, Hb2.out⟩
end Go.Proofs.YtgohfbfdhdepnaaDoor
