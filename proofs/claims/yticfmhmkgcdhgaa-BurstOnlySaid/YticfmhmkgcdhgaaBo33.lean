/-
  burst.Only: its walk.
-/
import Derived.Test.YticfmhmkgcdhgaaBo27
import Derived.Test.YticfmhmkgcdhgaaBo28
import Derived.Test.YticfmhmkgcdhgaaBo32
set_option linter.unusedSimpArgs false
set_option linter.unusedVariables false
namespace Go.Proofs.Yticfmhmkgcdhgaa
open Go.RowKit Go.Shelf
open Crc (bl bk)

attribute [local go_sem] Oper.semAt_some

def zB : Array Value := #[.int .i64 0, .int .i64 0, .int .i64 0]
/-- What Only answers. -/
def OnlyR (f : Nat) (bs : List UInt8) (L : List (BX (8 * bs.length))) (x v : Value) (en : Int) (w' : World) : Prop :=
  (Hs f bs L = [] ∧ x = .agg zB ∧ v = .slice none 0 0 ∧ en = 20) ∨
    (∃ y, Hs f bs L = [y] ∧ x = .agg (cellX y.1).toArray ∧ (∃ A c, v = .slice A bs.length c ∧ bs.length ≤ c ∧ Rd w' A (bv (outB bs y.1))) ∧ en = 0) ∨
    (2 ≤ (Hs f bs L).length ∧ x = .agg zB ∧ v = .slice none 0 0 ∧ en = 19)
/-- Bytes of the call's own, that were found. -/
def OutV (f : Nat) (bs : List UInt8) (pre : List (BX (8 * bs.length))) (lo : Nat) (v : Value) (W : World) : Prop :=
  (Hs f bs pre = [] ∧ v = .slice none 0 0) ∨ ∃ y, Hs f bs pre = [y] ∧ ∃ g cap cs, v = .slice (some ⟨g, 0, none⟩) bs.length cap ∧ bs.length ≤ cap ∧ Blk W g 5 cs ∧ lo < g ∧ Rd W (some ⟨g, 0, none⟩) (bv (outB bs y.1))
def oneC (f : Nat) (bs : List UInt8) (pre : List (BX (8 * bs.length))) : Array Value := match Hs f bs pre with | [] => zB | y :: _ => (cellX y.1).toArray
/-- Only, between two rounds. -/
structure OSt (w : World) (f : Nat) (bs : List UInt8) (A : Option Addr) (c : Nat) (most : Int) (pre : List (BX (8 * bs.length))) (W : World) : Prop where
  bb : Boxed W (w.heap.size) 22 (.slice A bs.length c)
  bf : Boxed W (w.heap.size + 1) 48 (.func (.func f) #[] #[])
  r6 : Blk W (w.heap.size + 1 + 1) 28 zB
  r7 : Boxed W (w.heap.size + 1 + 1 + 1) 22 (.slice none 0 0)
  r8 : Boxed W (w.heap.size + 1 + 1 + 1 + 1) 37 (.int .i64 0)
  bm : Boxed W (w.heap.size + 1 + 1 + 1 + 1 + 1 + 1 + 1 + 1) 3 (.int .i64 most)
  out : ∃ v, Boxed W (w.heap.size + 1 + 1 + 1 + 1 + 1) 22 v ∧ OutV f bs pre (w.heap.size + 1 + 1 + 1 + 1 + 1 + 1 + 1 + 1) v W
  one : Blk W (w.heap.size + 1 + 1 + 1 + 1 + 1 + 1) 28 (oneC f bs pre)
  blw : Below w.heap.size w W
theorem blk_grown {X Y : World} {row : Option Nat} {k B : Nat} {t : TypeId} {cs : Array Value} (h : X.heap[k]? = some (.cells cs t (0, 0))) (hg : X.grownBy Y row) (hr : ∀ r, row = some r → B ≤ r ∧ ∃ o : Obj, X.heap[r]? = some o ∧ o.isCells = false) : Y.heap[k]? = some (.cells cs t (0, 0)) :=
  (hg.block k (Array.getElem?_eq_some_iff.1 h).1 (fun e' => by obtain ⟨-, o, ho, hc⟩ := hr k e'.symm; rw [h] at ho; cases ho; cases hc)).trans h
theorem rd_grown {X Y : World} {row : Option Nat} {g B : Nat} {t : TypeId} {cs : Array Value} {xs : List Value} (h : X.heap[g]? = some (.cells cs t (0, 0))) (hx : Rd X (some ⟨g, 0, none⟩) xs) (hy : Y.heap[g]? = some (.cells cs t (0, 0))) : Rd Y (some ⟨g, 0, none⟩) xs := by
  intro j u hu
  obtain ⟨b, o, e, hc⟩ := hx j u hu
  injection e with e
  injection e with e1 e2
  subst e1 e2
  exact ⟨g, 0, rfl, by rw [cell_of_row _ _ _ _ _ _ hy]; rw [cell_of_row _ _ _ _ _ _ h] at hc; exact hc⟩
theorem OSt.own {w : World} {f : Nat} {bs : List UInt8} {A : Option Addr} {c : Nat} {most : Int} {B : Nat} (hB : w.heap.size ≤ B) : OwnFrom B (fun pre W => OSt w f bs A c most pre W) := by
  intro pre X Y row h hg hr
  refine ⟨blk_grown h.bb hg hr, blk_grown h.bf hg hr, blk_grown h.r6 hg hr, blk_grown h.r7 hg hr, blk_grown h.r8 hg hr, blk_grown h.bm hg hr, ?_, blk_grown h.one hg hr, ownFrom_below (β := List (BX (8 * bs.length))) (Nat.le_refl _) hB pre X Y row h.blw hg hr⟩
  obtain ⟨v, h1, h2⟩ := h.out
  refine ⟨v, blk_grown h1 hg hr, ?_⟩
  rcases h2 with h2 | ⟨y, h2, g, cap, cs, h3, h4, h5, h6, h7⟩
  · exact .inl h2
  · exact .inr ⟨y, h2, g, cap, cs, h3, h4, blk_grown h5 hg hr, h6, rd_grown (B := 0) (row := none) h5 h7 (blk_grown h5 hg hr)⟩
theorem OSt.below {w : World} {f : Nat} {bs : List UInt8} {A : Option Addr} {c : Nat} {most : Int} {pre : List (BX (8 * bs.length))} {X Y : World} (h : OSt w f bs A c most pre X) (hb : Below X.heap.size X Y) : OSt w f bs A c most pre Y :=
  OSt.own (Nat.le_refl _) pre X Y none h (below_grownNone hb) (fun r e => by cases e)
theorem Blk.set3 {W : World} {B : Nat} {t : TypeId} {a b c : Value} (h : Blk W B t #[a, b, c]) (x y z : Value) : Blk (((W.setCell ⟨B, 0, none⟩ x).setCell ⟨B, 1, none⟩ y).setCell ⟨B, 2, none⟩ z) B t #[x, y, z] := by
  have h1 := heap_setCell_same W B 0 _ t x h
  have h2 := heap_setCell_same _ B 1 _ t y h1
  exact heap_setCell_same _ B 2 _ t z h2
theorem Blk.oth {W : World} {k B i : Nat} {t : TypeId} {cs : Array Value} (h : Blk W k t cs) (hne : k ≠ B) (v : Value) : Blk (W.setCell ⟨B, i, none⟩ v) k t cs := (Below.heap_setCell _ _ _ _ hne).trans h
theorem keeps_below {X Y : World} (h : Below X.heap.size X Y) : KeepsOthers X Y := KeepsOthers.of_grownBy (below_grownNone h) (fun j o e _ => by cases e)
theorem below_set {n : Nat} {w X : World} (h : Below n w X) {k i : Nat} (hk : n ≤ k) (v : Value) : Below n w (X.setCell ⟨k, i, none⟩ v) := h.setCell (p := ⟨k, i, none⟩) hk v
theorem cell_set {X : World} {k i m : Nat} (v : Value) (h : m ≠ k) : (X.setCell ⟨k, i, none⟩ v).cell? ⟨m, 0, none⟩ = X.cell? ⟨m, 0, none⟩ := World.cell?_of_block (Below.heap_setCell _ _ _ _ h)
theorem OSt.no {w : World} {f : Nat} {bs : List UInt8} {A : Option Addr} {c : Nat} {most : Int} {pre : List (BX (8 * bs.length))} {x : BX (8 * bs.length)} {W : World} (h : OSt w f bs A c most pre W) (hx : okV f (outB bs x.1) = false) : OSt w f bs A c most (pre ++ [x]) W := by
  refine ⟨h.bb, h.bf, h.r6, h.r7, h.r8, h.bm, ?_, ?_, h.blw⟩
  · obtain ⟨v, h1, h2⟩ := h.out
    refine ⟨v, h1, ?_⟩
    unfold OutV at *
    rw [Hs_snoc_no _ _ _ _ hx]
    exact h2
  · have h1 := h.one
    unfold oneC at *
    rw [Hs_snoc_no _ _ _ _ hx]
    exact h1
theorem Blk.put {W : World} {k D : Nat} {t : TypeId} {cs : Array Value} (h : Blk W k t cs) (hne : k ≠ D) (o : Obj) : Blk (W.putObj D o) k t cs := (World.putObj_heap_other hne).trans h
def SlB (n : Nat) (L : List UInt8) (v : Value) (w : World) : Prop := ∃ A c, v = .slice A n c ∧ Rd w A (bv L)
def SlB.spec (n : Nat) (L : List UInt8) : Spec := .rel (SlB n L) (fun _ _ _ ⟨A, c, e, hr⟩ hb => ⟨A, c, e, hr.below hb⟩)

theorem ok_enters (f : Nat) (hf : okFs f) : ∀ args w, (callFunc f args).run Try.prog w = .ok (.enter f args) w := by
  rcases hf with rfl | rfl | rfl
  · exact enters_of Try.func22 (by kernel_rfl) rfl
  · exact enters_of Try.func23 (by kernel_rfl) rfl
  · exact enters_of Try.func24 (by kernel_rfl) rfl

set_option maxRecDepth 100000 in
set_option maxHeartbeats 8000000 in
theorem Only_in (fk : Nat) (hf : okFs fk) (bs : List UInt8) (A : Option Addr) (c : Nat) (most : Int) (w : World) (hr : Rd w A (bv bs)) (hl : bs.length ≤ 240) (hn : A = none → bs.length = 0 ∧ c = 0) :
    CallsIn Fence.wide 3 Try.prog 25 #[.slice A bs.length c, .int .i64 most, .func (.func fk) #[] #[]] w fun e w' => ∃ x v en, e = .returned (.tuple #[x, v, .int .i64 en]) ∧
      OnlyR fk bs (allH (8 * bs.length) (crc16 0 bs) most) x v en w' ∧ Below w.heap.size w w' := by
  have h1 : 1 ≤ 3 := by omega
  have hro : Fence.wide.round = none := rfl
  have HA := Lib.hid (fun W (h : Below w.heap.size w W) => All_any bs A c most W (hr.below h) (by omega) hn)
  have HR := Lib.hid hr
  have Hn := Lib.hid hn
  clear hr hn
  have hq1 : ∀ W, (binOp .neq 22 (.slice none 0 0) (.slice none 0 0)).run Try.prog W = .ok (.bool false) W := fun W => run_neq_slice_nil_any _ _ _ none 0 0 0 0 Try.underlying22
  have hq2 : ∀ g n c W, (binOp .neq 22 (.slice (some g) n c) (.slice none 0 0)).run Try.prog W = .ok (.bool true) W := fun g n c W => run_neq_slice_nil_any _ _ _ (some g) n c 0 0 Try.underlying22
  have hq3 : ∀ W, (binOp .eql 22 (.slice none 0 0) (.slice none 0 0)).run Try.prog W = .ok (.bool true) W := fun W => Lib.run_eql_slice_nil _ _ _ none 0 0 0 0 Try.underlying22
  have hq4 : ∀ g n c W, (binOp .eql 22 (.slice (some g) n c) (.slice none 0 0)).run Try.prog W = .ok (.bool false) W := fun g n c W => Lib.run_eql_slice_nil _ _ _ (some g) n c 0 0 Try.underlying22
  have hq := fun W => run_eql_func_nil (P := Try.prog) W (t := 48) (.func fk) #[] #[] Try.underlying48
  refine callsIn_of_wp_marks Try.func25 rfl trivial ?_ hro
  simp only [Try.ntmps25, List.size_toArray, List.length_cons, List.length_nil, Nat.reduceAdd, Nat.reduceSub, Array.replicate_succ, Array.replicate_zero, List.push_toArray, List.append_toArray, List.nil_append, List.cons_append]
  gi_wp2_with (refine ⟨trivial, ?_⟩; gi_at_call 27; refine (callsIn_wide.2 (HA.out _ (by repeat (first | exact Below.refl _ _ | assumption | refine below_drewN ?_ _ | refine Below.drew ?_ | refine Below.alloc ?_ (Nat.le_refl _) _ | refine bal ?_ _ | refine bnext ?_ (by assumption))))).mono ?_; rintro e w1 ⟨rfl, hb1, hm1, hB1⟩; have Hb1 := Lib.hid hb1; have Hm1 := Lib.hid hm1; have HB1 := Lib.hid hB1; clear hb1 hm1 hB1)
  obtain ⟨A', c', hB1, hcc, hrd⟩ := HB1.out
  have bM := Hm1.out
  have hb1 := Hb1.out
  simp only [World.size_alloc] at bM hB1
  have hOS : w.heap.size + 1 + 1 + 1 + 1 + 1 + 1 + 1 + 1 < w1.heap.size := bM.lt
  have h0 : OSt w fk bs A c most [] w1 := by
    have q0 : Blk w1 (w.heap.size) 22 #[.slice A bs.length c] := by
      refine hrow_below ?_ hb1
      have hq := heap_alloc_last w (.cells #[.slice A bs.length c] 22)
      try simp only [World.size_alloc] at hq
      exact hrow_alloc (hrow_alloc (hrow_alloc (hrow_alloc (hrow_alloc (hrow_alloc (hq) _) _) _) _) _) _
    have q1 : Blk w1 (w.heap.size + 1) 48 #[.func (.func fk) #[] #[]] := by
      refine hrow_below ?_ hb1
      have hq := heap_alloc_last (w.alloc (.cells #[.slice A bs.length c] 22)) (.cells #[.func (.func fk) #[] #[]] 48)
      try simp only [World.size_alloc] at hq
      exact hrow_alloc (hrow_alloc (hrow_alloc (hrow_alloc (hrow_alloc (hq) _) _) _) _) _
    have q2 : Blk w1 (w.heap.size + 1 + 1) 28 zB := by
      refine hrow_below ?_ hb1
      have hq := heap_alloc_last ((w.alloc (.cells #[.slice A bs.length c] 22)).alloc (.cells #[.func (.func fk) #[] #[]] 48)) (.cells zB 28)
      try simp only [World.size_alloc] at hq
      exact hrow_alloc (hrow_alloc (hrow_alloc (hrow_alloc (hq) _) _) _) _
    have q3 : Blk w1 (w.heap.size + 1 + 1 + 1) 22 #[.slice none 0 0] := by
      refine hrow_below ?_ hb1
      have hq := heap_alloc_last (((w.alloc (.cells #[.slice A bs.length c] 22)).alloc (.cells #[.func (.func fk) #[] #[]] 48)).alloc (.cells zB 28)) (.cells #[.slice none 0 0] 22)
      try simp only [World.size_alloc] at hq
      exact hrow_alloc (hrow_alloc (hrow_alloc (hq) _) _) _
    have q4 : Blk w1 (w.heap.size + 1 + 1 + 1 + 1) 37 #[.int .i64 0] := by
      refine hrow_below ?_ hb1
      have hq := heap_alloc_last ((((w.alloc (.cells #[.slice A bs.length c] 22)).alloc (.cells #[.func (.func fk) #[] #[]] 48)).alloc (.cells zB 28)).alloc (.cells #[.slice none 0 0] 22)) (.cells #[.int .i64 0] 37)
      try simp only [World.size_alloc] at hq
      exact hrow_alloc (hrow_alloc (hq) _) _
    have q5 : Blk w1 (w.heap.size + 1 + 1 + 1 + 1 + 1) 22 #[.slice none 0 0] := by
      refine hrow_below ?_ hb1
      have hq := heap_alloc_last (((((w.alloc (.cells #[.slice A bs.length c] 22)).alloc (.cells #[.func (.func fk) #[] #[]] 48)).alloc (.cells zB 28)).alloc (.cells #[.slice none 0 0] 22)).alloc (.cells #[.int .i64 0] 37)) (.cells #[.slice none 0 0] 22)
      try simp only [World.size_alloc] at hq
      exact hrow_alloc (hq) _
    have q6 : Blk w1 (w.heap.size + 1 + 1 + 1 + 1 + 1 + 1) 28 zB := by
      refine hrow_below ?_ hb1
      have hq := heap_alloc_last ((((((w.alloc (.cells #[.slice A bs.length c] 22)).alloc (.cells #[.func (.func fk) #[] #[]] 48)).alloc (.cells zB 28)).alloc (.cells #[.slice none 0 0] 22)).alloc (.cells #[.int .i64 0] 37)).alloc (.cells #[.slice none 0 0] 22)) (.cells zB 28)
      try simp only [World.size_alloc] at hq
      exact hq
    exact ⟨q0, q1, q2, q3, q4, bM, ⟨_, q5, .inl ⟨rfl, rfl⟩⟩, q6, bnext (by repeat (first | exact Below.refl _ _ | assumption | refine below_drewN ?_ _ | refine Below.drew ?_ | refine Below.alloc ?_ (Nat.le_refl _) _ | refine bal ?_ _ | refine bnext ?_ (by assumption))) hb1⟩
  have H0 := Lib.hid h0
  clear Hb1 Hm1 HB1 HA hb1 bM h0
  have hwle : w.heap.size ≤ w1.heap.size := by omega
  refine wpIn_rangeFunc_ownH hro h1 (gf := 33) (lb := #[.pointer (some ⟨w.heap.size + 1 + 1 + 1 + 1 + 1 + 1 + 1, 0, none⟩), .pointer (some ⟨w.heap.size + 1 + 1 + 1 + 1 + 1 + 1 + 1 + 1, 0, none⟩)]) rfl trivial (enters_of Try.func33 (by kernel_rfl) rfl)
    (all_stops (3 - 1) (by omega) (w.heap.size + 1 + 1 + 1 + 1 + 1 + 1 + 1) (w.heap.size + 1 + 1 + 1 + 1 + 1 + 1 + 1 + 1) w.heap.size bs A' c' most (by omega) w1 (by omega) hB1 hcc H0.out.bm.cell hrd) KpB.t (KpB.b (by omega) (by omega)) (Below.refl _ _) (fun _ => rfl)
    (fun pre W => OSt w fk bs A c most pre W)
    (fun k pre W => k = Code.ret ∧ (∃ L, pre = L ∧ 2 ≤ (Hs fk bs L).length) ∧ Blk W (w.heap.size + 1 + 1) 28 zB ∧ Boxed W (w.heap.size + 1 + 1 + 1) 22 (.slice none 0 0) ∧ Boxed W (w.heap.size + 1 + 1 + 1 + 1) 37 (.int .i64 19) ∧ Below w.heap.size w W)
    (OSt.own hwle)
    (fun k pre X Y row hs hg hrr => ⟨hs.1, hs.2.1, blk_grown hs.2.2.1 hg hrr, blk_grown hs.2.2.2.1 hg hrr, blk_grown hs.2.2.2.2.1 hg hrr, ownFrom_below (β := List (BX (8 * bs.length))) (Nat.le_refl _) hwle pre X Y row hs.2.2.2.2.2 hg hrr⟩)
    H0.out
    (fun x a' W => ∃ Bx, w.heap.size + 1 + 1 + 1 + 1 + 1 + 1 + 1 + 1 < Bx ∧ Blk W Bx 28 (cellX x.1).toArray ∧ a' = { tmps := #[.slice A bs.length c, .int .i64 most, .func (.func fk) #[] #[], .pointer (some ⟨w.heap.size, 0, none⟩), undef, .pointer (some ⟨w.heap.size + 1, 0, none⟩), .pointer (some ⟨w.heap.size + 1 + 1, 0, none⟩), .pointer (some ⟨w.heap.size + 1 + 1 + 1, 0, none⟩), .pointer (some ⟨w.heap.size + 1 + 1 + 1 + 1, 0, none⟩), .pointer (some ⟨w.heap.size + 1 + 1 + 1 + 1 + 1, 0, none⟩), .pointer (some ⟨w.heap.size + 1 + 1 + 1 + 1 + 1 + 1, 0, none⟩), .pointer (some ⟨Bx, 0, none⟩), undef, undef, .func (.func fk) #[] #[], .bool false, undef, .slice A bs.length c, .int .i64 most, .func (.func 33) #[] #[.pointer (some ⟨w.heap.size + 1 + 1 + 1 + 1 + 1 + 1 + 1, 0, none⟩), .pointer (some ⟨w.heap.size + 1 + 1 + 1 + 1 + 1 + 1 + 1 + 1, 0, none⟩)], .agg #[.int .i64 (x.1.a : Int), .int .i64 (x.1.n : Int), .int .i64 (x.1.p : Int)], undef, undef, undef, undef, undef, undef, undef, undef, undef, undef, undef, undef, undef, undef, undef, undef, undef, undef, undef, undef, undef, undef], defers := [] })
    (fun x a' _ X Y row hs hg hrr => by obtain ⟨Bx, h1, h2, h3⟩ := hs; exact ⟨Bx, h1, blk_grown h2 hg hrr, h3⟩)
    ?assign ?body ?done ?stop
  case assign =>
    rintro l pre x W K hI hK
    simp only [encX]
    have hlt : w.heap.size + 1 + 1 + 1 + 1 + 1 + 1 + 1 + 1 < W.heap.size := hI.bm.lt
    have hI2 := Lib.hid (hI.below (bal (Below.refl _ _) (.cells #[.int .i64 (x.1.a : Int), .int .i64 (x.1.n : Int), .int .i64 (x.1.p : Int)] 28)))
    have hbW := Lib.hid hI.blw
    clear hI
    gi_wp2
    exact hK _ _ ((KeepsOthers.alloc _ _).from _) (KpB.of (bal (Below.refl _ _) _) hbW.out.size (by omega)) hI2.out ⟨W.heap.size, hlt, Blk.new W _ _, rfl⟩
  case body =>
    rintro l pre x a' W hl2 ⟨r, hr2⟩ hI ⟨Bx, hBx, bX, rfl⟩ hlt
    have HI := Lib.hid hI
    have hX0 := cell_of_row W Bx 0 _ _ _ bX
    have hX1 := cell_of_row W Bx 1 _ _ _ bX
    have hX2 := cell_of_row W Bx 2 _ _ _ bX
    simp only [cellX, List.getElem?_toArray, List.getElem?_cons_zero, List.getElem?_cons_succ] at hX0 hX1 hX2
    have hbb := hI.bb.cell
    have HAp := Lib.hid (Apply_one bs A c x W (HR.out.below hI.blw) (by omega) Hn.out rfl)
    clear hI
    gi_wp2_with (refine ⟨trivial, ?_⟩; gi_at_call 18; refine (CallsIn.inRound l (callsIn_wide.2 HAp.out)).mono ?_; rintro e w2 ⟨hb2, g, cap, cs, rfl, hgl, hcap, hgb, hgr⟩; have Hb2 := Lib.hid hb2; have Hgb := Lib.hid hgb; have Hgr := Lib.hid hgr; clear hb2 hgb hgr)
    have HIb := Lib.hid (HI.out.below Hb2.out)
    have Hbf := Lib.hid (fun W' (hb : Below w2.heap.size w2 W') => (HIb.out.below hb).bf)
    have HCl : Hid (∀ W', Below w2.heap.size w2 W' → Calls Try.prog 31 #[.slice (some ⟨g, 0, none⟩) bs.length cap] W' fun e w' => ∃ v, e = .returned v ∧ w'.ownsRow W'.heap.size 5 1 v bs.length (bv (outB bs x.1)) ∧ Below W'.heap.size W' w') := fun W' hb => by
      have h := clone_any (outB bs x.1) (some ⟨g, 0, none⟩) cap W' (Hgr.out.below hb) (by rw [outB_length]; omega) (fun e => by cases e)
      rwa [outB_length] at h
    obtain ⟨bq, hbq⟩ : ∃ b, okV fk (outB bs x.1) = b := ⟨_, rfl⟩
    have HOk : Hid (∀ W' A2 c2, Rd W' A2 (bv (outB bs x.1)) → Calls Try.prog fk #[.slice A2 bs.length c2] W' fun e w' => e = .returned (.bool bq) ∧ Below W'.heap.size W' w') := fun W' A2 c2 hr' => by
      have h := ok_any fk hf (outB bs x.1) A2 c2 W' hr' (by rw [outB_length]; omega)
      rwa [outB_length, hbq] at h
    have hent : ∀ args w, (callFunc fk args).run Try.prog w = .ok (.enter fk args) w := ok_enters fk hf
    have Hbq := Lib.hid hbq
    clear hbq HAp
    cases bq
    · refine wpIn_round_specs (fun ⟨_, _, h⟩ => h) (by kernel_rfl) [
        Spec.val (.func (.func fk) #[] #[]),
        Spec.val (.slice (some ⟨g, 0, none⟩) bs.length cap),
        SlB.spec bs.length (outB bs x.1),
        Spec.val (.bool false),
        Spec.val (.bool true)] w2 (by kernel_rfl) (by repeat (first | exact Below.refl _ _ | assumption | refine below_drewN ?_ _ | refine Below.drew ?_ | refine Below.alloc ?_ (Nat.le_refl _) _ | refine bal ?_ _ | refine bnext ?_ (by assumption))) (n := 43) rfl (by decide +kernel) ⟨?_, ?_, ?_, ?_, ?_, trivial⟩ ?_
      · intro ac wd hJ hfr hdep
        have s5 : ac.tmps.getD 5 undef = .pointer (some ⟨w.heap.size + 1, 0, none⟩) := (hfr 5 (by decide)).trans rfl
        have s5' := slot' s5
        clear hfr hdep
        refine if_wanted rfl (fun Q => op_any (fun K hK => ?_))
        have hx := (Hbf.out _ hJ).cell
        go_simp
        exact hK _ _ rfl hJ (Below.refl _ _)
      · intro ac wd hJ hfr hdep
        have s12 : ac.tmps.getD 12 undef = .slice (some ⟨g, 0, none⟩) bs.length cap := (hfr 12 (by decide)).trans rfl
        have s12' := slot' s12
        clear hfr hdep
        refine if_wanted rfl (fun Q => op_any (fun K hK => ?_))
        go_simp
        exact hK _ _ rfl hJ (Below.refl _ _)
      · intro ac wd hJ hfr hdep
        have s29 : ac.tmps.getD 29 undef = .slice (some ⟨g, 0, none⟩) bs.length cap := hdep 1 _ 29 (by decide) rfl rfl
        have s29' := slot' s29
        clear hfr hdep
        refine if_wanted rfl (fun Q => op_any (fun K hK => ?_))
        go_simp
        refine (HCl.out _ hJ).mono ?_
        rintro e wz ⟨v, rfl, hown, hbz⟩
        obtain ⟨A', c', rfl, -, hr⟩ := own_rd hown
        exact hK _ _ ⟨A', c', rfl, hr⟩ (bnext hJ hbz) hbz
      · intro ac wd hJ hfr hdep
        have s28 : ac.tmps.getD 28 undef = .func (.func fk) #[] #[] := hdep 0 _ 28 (by decide) rfl rfl
        obtain ⟨A30, c30, s30, hr30⟩ := hdep 2 _ 30 (by decide) rfl rfl
        have s28' := slot' s28
        have s30' := slot' s30
        clear hfr hdep
        refine if_wanted rfl (fun Q => op_any (fun K hK => ?_))
        go_simp
        refine (HOk.out _ A30 c30 hr30).mono ?_
        rintro e wz ⟨rfl, hbz⟩
        exact hK _ _ rfl (bnext hJ hbz) hbz
      · intro ac wd hJ hfr hdep
        have s31 : ac.tmps.getD 31 undef = .bool false := hdep 3 _ 31 (by decide) rfl rfl
        have s31' := slot' s31
        clear hfr hdep
        refine if_wanted rfl (fun Q => op_any (fun K hK => ?_))
        go_simp
        exact hK _ _ rfl hJ (Below.refl _ _)
      intro f w9 hJ9 hR
      have e0 : f 0 = .func (.func fk) #[] #[] := hR 0 (by decide)
      have e1 : f 1 = .slice (some ⟨g, 0, none⟩) bs.length cap := hR 1 (by decide)
      obtain ⟨A2', c2', e2, hr2'⟩ := hR 2 (by decide)
      have e3 : f 3 = .bool false := hR 3 (by decide)
      have e4 : f 4 = .bool true := hR 4 (by decide)
      clear hR
      simp only [finA, Act.put, List.setIfInBounds_toArray, List.set_cons_succ, List.set_cons_zero, Nat.reduceAdd, e0, e1, e2, e3, e4]
      clear e0 e1 e2 e3 e4
      gi_wp2
      have hbW9 := bnext Hb2.out hJ9
      exact ⟨(keeps_below hbW9).from _, KpB.of hbW9 HI.out.blw.size HI.out.bm.lt, (HIb.out.below hJ9).no Hbq.out⟩
    · refine wpIn_round_specs (fun ⟨_, _, h⟩ => h) (by kernel_rfl) [
        Spec.val (.func (.func fk) #[] #[]),
        Spec.val (.slice (some ⟨g, 0, none⟩) bs.length cap),
        SlB.spec bs.length (outB bs x.1),
        Spec.val (.bool true),
        Spec.val (.bool false)] w2 (by kernel_rfl) (by repeat (first | exact Below.refl _ _ | assumption | refine below_drewN ?_ _ | refine Below.drew ?_ | refine Below.alloc ?_ (Nat.le_refl _) _ | refine bal ?_ _ | refine bnext ?_ (by assumption))) (n := 43) rfl (by decide +kernel) ⟨?_, ?_, ?_, ?_, ?_, trivial⟩ ?_
      · intro ac wd hJ hfr hdep
        have s5 : ac.tmps.getD 5 undef = .pointer (some ⟨w.heap.size + 1, 0, none⟩) := (hfr 5 (by decide)).trans rfl
        have s5' := slot' s5
        clear hfr hdep
        refine if_wanted rfl (fun Q => op_any (fun K hK => ?_))
        have hx := (Hbf.out _ hJ).cell
        go_simp
        exact hK _ _ rfl hJ (Below.refl _ _)
      · intro ac wd hJ hfr hdep
        have s12 : ac.tmps.getD 12 undef = .slice (some ⟨g, 0, none⟩) bs.length cap := (hfr 12 (by decide)).trans rfl
        have s12' := slot' s12
        clear hfr hdep
        refine if_wanted rfl (fun Q => op_any (fun K hK => ?_))
        go_simp
        exact hK _ _ rfl hJ (Below.refl _ _)
      · intro ac wd hJ hfr hdep
        have s29 : ac.tmps.getD 29 undef = .slice (some ⟨g, 0, none⟩) bs.length cap := hdep 1 _ 29 (by decide) rfl rfl
        have s29' := slot' s29
        clear hfr hdep
        refine if_wanted rfl (fun Q => op_any (fun K hK => ?_))
        go_simp
        refine (HCl.out _ hJ).mono ?_
        rintro e wz ⟨v, rfl, hown, hbz⟩
        obtain ⟨A', c', rfl, -, hr⟩ := own_rd hown
        exact hK _ _ ⟨A', c', rfl, hr⟩ (bnext hJ hbz) hbz
      · intro ac wd hJ hfr hdep
        have s28 : ac.tmps.getD 28 undef = .func (.func fk) #[] #[] := hdep 0 _ 28 (by decide) rfl rfl
        obtain ⟨A30, c30, s30, hr30⟩ := hdep 2 _ 30 (by decide) rfl rfl
        have s28' := slot' s28
        have s30' := slot' s30
        clear hfr hdep
        refine if_wanted rfl (fun Q => op_any (fun K hK => ?_))
        go_simp
        refine (HOk.out _ A30 c30 hr30).mono ?_
        rintro e wz ⟨rfl, hbz⟩
        exact hK _ _ rfl (bnext hJ hbz) hbz
      · intro ac wd hJ hfr hdep
        have s31 : ac.tmps.getD 31 undef = .bool true := hdep 3 _ 31 (by decide) rfl rfl
        have s31' := slot' s31
        clear hfr hdep
        refine if_wanted rfl (fun Q => op_any (fun K hK => ?_))
        go_simp
        exact hK _ _ rfl hJ (Below.refl _ _)
      intro f w9 hJ9 hR
      have e0 : f 0 = .func (.func fk) #[] #[] := hR 0 (by decide)
      have e1 : f 1 = .slice (some ⟨g, 0, none⟩) bs.length cap := hR 1 (by decide)
      obtain ⟨A2', c2', e2, hr2'⟩ := hR 2 (by decide)
      have e3 : f 3 = .bool true := hR 3 (by decide)
      have e4 : f 4 = .bool false := hR 4 (by decide)
      clear hR
      simp only [finA, Act.put, List.setIfInBounds_toArray, List.set_cons_succ, List.set_cons_zero, Nat.reduceAdd, e0, e1, e2, e3, e4]
      clear e0 e1 e2 e3 e4
      have hbW9 := bnext Hb2.out hJ9
      have HI9 := Lib.hid (HIb.out.below hJ9)
      have bX9 : Blk w9 Bx 28 (cellX x.1).toArray := hrow_below bX hbW9
      have hX0 := cell_of_row w9 Bx 0 _ _ _ bX9
      have hX1 := cell_of_row w9 Bx 1 _ _ _ bX9
      have hX2 := cell_of_row w9 Bx 2 _ _ _ bX9
      simp only [cellX, List.getElem?_toArray, List.getElem?_cons_zero, List.getElem?_cons_succ] at hX0 hX1 hX2
      have Hk9 := Lib.hid (And.intro (keeps_below hbW9) (KpB.of hbW9 HI.out.blw.size HI.out.bm.lt : KpB w.heap.size (w.heap.size + 1 + 1 + 1 + 1 + 1 + 1 + 1 + 1) W w9))
      have hgw : w.heap.size + 1 + 1 + 1 + 1 + 1 + 1 + 1 + 1 < g := by have := HI.out.bm.lt; omega
      have Hgb9 : Hid (Blk w9 g 5 cs) := hrow_below Hgb.out hJ9
      have Hgr9 := Lib.hid (Hgr.out.below hJ9)
      clear hbW9 HI HIb hJ9 Hgb Hgr bX bX9 hr2'
      obtain ⟨v, hv, hov⟩ := HI9.out.out
      have hvc := hv.cell
      have hvf := hv.frozen
      rcases hov with ⟨hH, rfl⟩ | ⟨y, hH, g2, cap2, cs2, rfl, -⟩
      · have h1e : Blk w9 (w.heap.size + 1 + 1 + 1 + 1 + 1 + 1) 28 zB := by have h := HI9.out.one; unfold oneC at h; rw [hH] at h; exact h
        have g60 := cell_of_row w9 (w.heap.size + 1 + 1 + 1 + 1 + 1 + 1) 0 _ _ _ h1e
        have g61 := cell_of_row w9 (w.heap.size + 1 + 1 + 1 + 1 + 1 + 1) 1 _ _ _ h1e
        have g62 := cell_of_row w9 (w.heap.size + 1 + 1 + 1 + 1 + 1 + 1) 2 _ _ _ h1e
        have z60 := frozen_of_row w9 (w.heap.size + 1 + 1 + 1 + 1 + 1 + 1) 0 _ _ h1e
        have z61 := frozen_of_row w9 (w.heap.size + 1 + 1 + 1 + 1 + 1 + 1) 1 _ _ h1e
        have z62 := frozen_of_row w9 (w.heap.size + 1 + 1 + 1 + 1 + 1 + 1) 2 _ _ h1e
        simp only [zB, List.getElem?_toArray, List.getElem?_cons_zero, List.getElem?_cons_succ] at g60 g61 g62
        have HF : Hid (KeepsOthers W ((((w9.setCell ⟨w.heap.size + 1 + 1 + 1 + 1 + 1 + 1, 0, none⟩ (.int .i64 (x.1.a : Int))).setCell ⟨w.heap.size + 1 + 1 + 1 + 1 + 1 + 1, 1, none⟩ (.int .i64 (x.1.n : Int))).setCell ⟨w.heap.size + 1 + 1 + 1 + 1 + 1 + 1, 2, none⟩ (.int .i64 (x.1.p : Int))).setCell ⟨w.heap.size + 1 + 1 + 1 + 1 + 1, 0, none⟩ (.slice (some ⟨g, 0, none⟩) bs.length cap)) ∧ KpB w.heap.size (w.heap.size + 1 + 1 + 1 + 1 + 1 + 1 + 1 + 1) W ((((w9.setCell ⟨w.heap.size + 1 + 1 + 1 + 1 + 1 + 1, 0, none⟩ (.int .i64 (x.1.a : Int))).setCell ⟨w.heap.size + 1 + 1 + 1 + 1 + 1 + 1, 1, none⟩ (.int .i64 (x.1.n : Int))).setCell ⟨w.heap.size + 1 + 1 + 1 + 1 + 1 + 1, 2, none⟩ (.int .i64 (x.1.p : Int))).setCell ⟨w.heap.size + 1 + 1 + 1 + 1 + 1, 0, none⟩ (.slice (some ⟨g, 0, none⟩) bs.length cap)) ∧ OSt w fk bs A c most (pre ++ [x]) ((((w9.setCell ⟨w.heap.size + 1 + 1 + 1 + 1 + 1 + 1, 0, none⟩ (.int .i64 (x.1.a : Int))).setCell ⟨w.heap.size + 1 + 1 + 1 + 1 + 1 + 1, 1, none⟩ (.int .i64 (x.1.n : Int))).setCell ⟨w.heap.size + 1 + 1 + 1 + 1 + 1 + 1, 2, none⟩ (.int .i64 (x.1.p : Int))).setCell ⟨w.heap.size + 1 + 1 + 1 + 1 + 1, 0, none⟩ (.slice (some ⟨g, 0, none⟩) bs.length cap))) := by
          have k4 : ∀ {k : Nat} {t : TypeId} {cs : Array Value}, Blk w9 k t cs → k ≠ w.heap.size + 1 + 1 + 1 + 1 + 1 + 1 → k ≠ w.heap.size + 1 + 1 + 1 + 1 + 1 → Blk ((((w9.setCell ⟨w.heap.size + 1 + 1 + 1 + 1 + 1 + 1, 0, none⟩ (.int .i64 (x.1.a : Int))).setCell ⟨w.heap.size + 1 + 1 + 1 + 1 + 1 + 1, 1, none⟩ (.int .i64 (x.1.n : Int))).setCell ⟨w.heap.size + 1 + 1 + 1 + 1 + 1 + 1, 2, none⟩ (.int .i64 (x.1.p : Int))).setCell ⟨w.heap.size + 1 + 1 + 1 + 1 + 1, 0, none⟩ (.slice (some ⟨g, 0, none⟩) bs.length cap)) k t cs := fun h h6 h5 => (((h.oth h6 _).oth h6 _).oth h6 _).oth h5 _
          refine ⟨Hk9.out.1.trans ((KeepsOthers.setCell _ _ _).trans ((KeepsOthers.setCell _ _ _).trans ((KeepsOthers.setCell _ _ _).trans (KeepsOthers.setCell _ _ _)))), ?_, ?_⟩
          · refine Hk9.out.2.t ⟨below_set (below_set (below_set (below_set (Below.refl _ _) (by omega) _) (by omega) _) (by omega) _) (by omega) _, ?_⟩
            rw [cell_set _ (by omega), cell_set _ (by omega), cell_set _ (by omega), cell_set _ (by omega)]
          · have hHx : Hs fk bs (pre ++ [x]) = [x] := by rw [Hs_snoc_yes _ _ _ _ Hbq.out, hH]; rfl
            have hO := HI9.out
            refine ⟨k4 hO.bb (by omega) (by omega), k4 hO.bf (by omega) (by omega), k4 hO.r6 (by omega) (by omega), k4 hO.r7 (by omega) (by omega), k4 hO.r8 (by omega) (by omega), k4 hO.bm (by omega) (by omega), ?_, ?_, below_set (below_set (below_set (below_set hO.blw (by omega) _) (by omega) _) (by omega) _) (by omega) _⟩
            · refine ⟨.slice (some ⟨g, 0, none⟩) bs.length cap, Boxed.set _ (show Boxed _ (w.heap.size + 1 + 1 + 1 + 1 + 1) _ (.slice none 0 0) from ((Blk.oth (k := w.heap.size + 1 + 1 + 1 + 1 + 1) hv (by omega) _).oth (by omega) _).oth (by omega) _), .inr ⟨x, hHx, g, cap, cs, rfl, hcap, k4 Hgb9.out (by omega) (by omega), hgw, rd_grown (B := 0) (row := none) Hgb9.out Hgr9.out (k4 Hgb9.out (by omega) (by omega))⟩⟩
            · unfold oneC
              rw [hHx]
              exact (Blk.set3 h1e _ _ _).oth (by omega) _
        clear hH h1e Hk9 HI9 Hgb9 Hgr9
        gi_wp2
        exact ⟨HF.out.1.from _, HF.out.2.1, HF.out.2.2⟩
      · have h2e := HI9.out.r6
        have g20 := cell_of_row w9 (w.heap.size + 1 + 1) 0 _ _ _ h2e
        have g21 := cell_of_row w9 (w.heap.size + 1 + 1) 1 _ _ _ h2e
        have g22 := cell_of_row w9 (w.heap.size + 1 + 1) 2 _ _ _ h2e
        have z20 := frozen_of_row w9 (w.heap.size + 1 + 1) 0 _ _ h2e
        have z21 := frozen_of_row w9 (w.heap.size + 1 + 1) 1 _ _ h2e
        have z22 := frozen_of_row w9 (w.heap.size + 1 + 1) 2 _ _ h2e
        simp only [zB, List.getElem?_toArray, List.getElem?_cons_zero, List.getElem?_cons_succ] at g20 g21 g22
        have g3 := HI9.out.r7.cell
        have z3 := HI9.out.r7.frozen
        have g4 := HI9.out.r8.cell
        have z4 := HI9.out.r8.frozen
        have HF : Hid (KeepsOthers W (((((w9.setCell ⟨w.heap.size + 1 + 1, 0, none⟩ (.int .i64 0)).setCell ⟨w.heap.size + 1 + 1, 1, none⟩ (.int .i64 0)).setCell ⟨w.heap.size + 1 + 1, 2, none⟩ (.int .i64 0)).setCell ⟨w.heap.size + 1 + 1 + 1, 0, none⟩ (.slice none 0 0)).setCell ⟨w.heap.size + 1 + 1 + 1 + 1, 0, none⟩ (.int .i64 19)) ∧ (∃ L, pre ++ [x] = L ∧ 2 ≤ (Hs fk bs L).length) ∧ Blk (((((w9.setCell ⟨w.heap.size + 1 + 1, 0, none⟩ (.int .i64 0)).setCell ⟨w.heap.size + 1 + 1, 1, none⟩ (.int .i64 0)).setCell ⟨w.heap.size + 1 + 1, 2, none⟩ (.int .i64 0)).setCell ⟨w.heap.size + 1 + 1 + 1, 0, none⟩ (.slice none 0 0)).setCell ⟨w.heap.size + 1 + 1 + 1 + 1, 0, none⟩ (.int .i64 19)) (w.heap.size + 1 + 1) 28 zB ∧ Boxed (((((w9.setCell ⟨w.heap.size + 1 + 1, 0, none⟩ (.int .i64 0)).setCell ⟨w.heap.size + 1 + 1, 1, none⟩ (.int .i64 0)).setCell ⟨w.heap.size + 1 + 1, 2, none⟩ (.int .i64 0)).setCell ⟨w.heap.size + 1 + 1 + 1, 0, none⟩ (.slice none 0 0)).setCell ⟨w.heap.size + 1 + 1 + 1 + 1, 0, none⟩ (.int .i64 19)) (w.heap.size + 1 + 1 + 1) 22 (.slice none 0 0) ∧ Boxed (((((w9.setCell ⟨w.heap.size + 1 + 1, 0, none⟩ (.int .i64 0)).setCell ⟨w.heap.size + 1 + 1, 1, none⟩ (.int .i64 0)).setCell ⟨w.heap.size + 1 + 1, 2, none⟩ (.int .i64 0)).setCell ⟨w.heap.size + 1 + 1 + 1, 0, none⟩ (.slice none 0 0)).setCell ⟨w.heap.size + 1 + 1 + 1 + 1, 0, none⟩ (.int .i64 19)) (w.heap.size + 1 + 1 + 1 + 1) 37 (.int .i64 19) ∧ Below w.heap.size w (((((w9.setCell ⟨w.heap.size + 1 + 1, 0, none⟩ (.int .i64 0)).setCell ⟨w.heap.size + 1 + 1, 1, none⟩ (.int .i64 0)).setCell ⟨w.heap.size + 1 + 1, 2, none⟩ (.int .i64 0)).setCell ⟨w.heap.size + 1 + 1 + 1, 0, none⟩ (.slice none 0 0)).setCell ⟨w.heap.size + 1 + 1 + 1 + 1, 0, none⟩ (.int .i64 19))) := by
          have hO := HI9.out
          refine ⟨Hk9.out.1.trans ((KeepsOthers.setCell _ _ _).trans ((KeepsOthers.setCell _ _ _).trans ((KeepsOthers.setCell _ _ _).trans ((KeepsOthers.setCell _ _ _).trans (KeepsOthers.setCell _ _ _))))), ⟨_, rfl, by rw [Hs_snoc_yes _ _ _ _ Hbq.out, hH]; simp⟩, ?_, ?_, ?_, below_set (below_set (below_set (below_set (below_set hO.blw (by omega) _) (by omega) _) (by omega) _) (by omega) _) (by omega) _⟩
          · exact ((Blk.set3 h2e (.int .i64 0) (.int .i64 0) (.int .i64 0)).oth (by omega) _).oth (by omega) _
          · exact Blk.oth (k := w.heap.size + 1 + 1 + 1) (Boxed.set (.slice none 0 0) (show Boxed _ (w.heap.size + 1 + 1 + 1) _ (.slice none 0 0) from ((Blk.oth (k := w.heap.size + 1 + 1 + 1) hO.r7 (by omega) _).oth (by omega) _).oth (by omega) _)) (by omega) _
          · exact Boxed.set (.int .i64 19) (show Boxed _ (w.heap.size + 1 + 1 + 1 + 1) _ (.int .i64 0) from (((Blk.oth (k := w.heap.size + 1 + 1 + 1 + 1) hO.r8 (by omega) _).oth (by omega) _).oth (by omega) _).oth (by omega) _)
        clear hH h2e Hk9 HI9 Hgb9 Hgr9
        gi_wp2
        exact ⟨HF.out.1.from _, rfl, HF.out.2⟩
  case done =>
    rintro D ys W hD rfl hI hK
    have HI := Lib.hid hI
    have HK := Lib.hid hK
    have hDs : w.heap.size + 1 + 1 + 1 + 1 + 1 + 1 + 1 + 1 < D := by omega
    clear hI hK
    obtain ⟨v, hv, hov⟩ := HI.out.out
    have hvc := hv.cell
    have h2e := HI.out.r6
    have g20 := cell_of_row W (w.heap.size + 1 + 1) 0 _ _ _ h2e
    have g21 := cell_of_row W (w.heap.size + 1 + 1) 1 _ _ _ h2e
    have g22 := cell_of_row W (w.heap.size + 1 + 1) 2 _ _ _ h2e
    have z20 := frozen_of_row W (w.heap.size + 1 + 1) 0 _ _ h2e
    have z21 := frozen_of_row W (w.heap.size + 1 + 1) 1 _ _ h2e
    have z22 := frozen_of_row W (w.heap.size + 1 + 1) 2 _ _ h2e
    simp only [zB, List.getElem?_toArray, List.getElem?_cons_zero, List.getElem?_cons_succ] at g20 g21 g22
    have g3 := HI.out.r7.cell
    have z3 := HI.out.r7.frozen
    have g4 := HI.out.r8.cell
    have z4 := HI.out.r8.frozen
    rcases hov with ⟨hH, rfl⟩ | ⟨y, hH, g2, cap2, cs2, rfl, hcap2, hgb2, hlo2, hgr2⟩
    · have HX0 : Hid (Blk (((((W.setCell ⟨w.heap.size + 1 + 1, 0, none⟩ (.int .i64 0)).setCell ⟨w.heap.size + 1 + 1, 1, none⟩ (.int .i64 0)).setCell ⟨w.heap.size + 1 + 1, 2, none⟩ (.int .i64 0)).setCell ⟨w.heap.size + 1 + 1 + 1, 0, none⟩ (.slice none 0 0)).setCell ⟨w.heap.size + 1 + 1 + 1 + 1, 0, none⟩ (.int .i64 20)) (w.heap.size + 1 + 1) 28 zB ∧ Boxed (((((W.setCell ⟨w.heap.size + 1 + 1, 0, none⟩ (.int .i64 0)).setCell ⟨w.heap.size + 1 + 1, 1, none⟩ (.int .i64 0)).setCell ⟨w.heap.size + 1 + 1, 2, none⟩ (.int .i64 0)).setCell ⟨w.heap.size + 1 + 1 + 1, 0, none⟩ (.slice none 0 0)).setCell ⟨w.heap.size + 1 + 1 + 1 + 1, 0, none⟩ (.int .i64 20)) (w.heap.size + 1 + 1 + 1) 22 (.slice none 0 0) ∧ Boxed (((((W.setCell ⟨w.heap.size + 1 + 1, 0, none⟩ (.int .i64 0)).setCell ⟨w.heap.size + 1 + 1, 1, none⟩ (.int .i64 0)).setCell ⟨w.heap.size + 1 + 1, 2, none⟩ (.int .i64 0)).setCell ⟨w.heap.size + 1 + 1 + 1, 0, none⟩ (.slice none 0 0)).setCell ⟨w.heap.size + 1 + 1 + 1 + 1, 0, none⟩ (.int .i64 20)) (w.heap.size + 1 + 1 + 1 + 1) 37 (.int .i64 20) ∧ (((((W.setCell ⟨w.heap.size + 1 + 1, 0, none⟩ (.int .i64 0)).setCell ⟨w.heap.size + 1 + 1, 1, none⟩ (.int .i64 0)).setCell ⟨w.heap.size + 1 + 1, 2, none⟩ (.int .i64 0)).setCell ⟨w.heap.size + 1 + 1 + 1, 0, none⟩ (.slice none 0 0)).setCell ⟨w.heap.size + 1 + 1 + 1 + 1, 0, none⟩ (.int .i64 20)).heap[D]? = some (.deferred (some [])) ∧ Below w.heap.size w (((((W.setCell ⟨w.heap.size + 1 + 1, 0, none⟩ (.int .i64 0)).setCell ⟨w.heap.size + 1 + 1, 1, none⟩ (.int .i64 0)).setCell ⟨w.heap.size + 1 + 1, 2, none⟩ (.int .i64 0)).setCell ⟨w.heap.size + 1 + 1 + 1, 0, none⟩ (.slice none 0 0)).setCell ⟨w.heap.size + 1 + 1 + 1 + 1, 0, none⟩ (.int .i64 20))) := by
        have hO := HI.out
        refine ⟨?_, ?_, ?_, ?_, below_set (below_set (below_set (below_set (below_set hO.blw (by omega) _) (by omega) _) (by omega) _) (by omega) _) (by omega) _⟩
        · exact ((Blk.set3 h2e (.int .i64 0) (.int .i64 0) (.int .i64 0)).oth (by omega) _).oth (by omega) _
        · exact Blk.oth (k := w.heap.size + 1 + 1 + 1) (Boxed.set (.slice none 0 0) (show Boxed _ (w.heap.size + 1 + 1 + 1) _ (.slice none 0 0) from ((Blk.oth (k := w.heap.size + 1 + 1 + 1) hO.r7 (by omega) _).oth (by omega) _).oth (by omega) _)) (by omega) _
        · exact Boxed.set (.int .i64 20) (show Boxed _ (w.heap.size + 1 + 1 + 1 + 1) _ (.int .i64 0) from (((Blk.oth (k := w.heap.size + 1 + 1 + 1 + 1) hO.r8 (by omega) _).oth (by omega) _).oth (by omega) _).oth (by omega) _)
        · exact ((KeepsOthers.setCell _ _ _).trans ((KeepsOthers.setCell _ _ _).trans ((KeepsOthers.setCell _ _ _).trans ((KeepsOthers.setCell _ _ _).trans (KeepsOthers.setCell _ _ _))))).same D _ HK.out rfl
      have HH := Lib.hid hH
      clear hH h2e HI HK hv
      gi_wp2
      have HX := HX0
      generalize (((((W.setCell ⟨w.heap.size + 1 + 1, 0, none⟩ (.int .i64 0)).setCell ⟨w.heap.size + 1 + 1, 1, none⟩ (.int .i64 0)).setCell ⟨w.heap.size + 1 + 1, 2, none⟩ (.int .i64 0)).setCell ⟨w.heap.size + 1 + 1 + 1, 0, none⟩ (.slice none 0 0)).setCell ⟨w.heap.size + 1 + 1 + 1 + 1, 0, none⟩ (.int .i64 20)) = W2 at *
      clear HX0
      refine ⟨by simp, .inl ⟨_, _, rfl, run_takeDeferred HX.out.2.2.2.1, ?_⟩⟩
      have b2 := HX.out.1.put (D := D) (by omega) (.deferred none)
      have b3 := Blk.put (k := w.heap.size + 1 + 1 + 1) (D := D) HX.out.2.1 (by omega) (.deferred none)
      have b4 := Blk.put (k := w.heap.size + 1 + 1 + 1 + 1) (D := D) HX.out.2.2.1 (by omega) (.deferred none)
      have c20 := cell_of_row _ (w.heap.size + 1 + 1) 0 _ _ _ b2
      have c21 := cell_of_row _ (w.heap.size + 1 + 1) 1 _ _ _ b2
      have c22 := cell_of_row _ (w.heap.size + 1 + 1) 2 _ _ _ b2
      have c3 := cell_of_row _ (w.heap.size + 1 + 1 + 1) 0 _ _ _ b3
      have c4 := cell_of_row _ (w.heap.size + 1 + 1 + 1 + 1) 0 _ _ _ b4
      simp only [zB, List.getElem?_toArray, List.getElem?_cons_zero, List.getElem?_cons_succ] at c20 c21 c22 c3 c4
      have hB4 := HX.out.2.2.2.2.trans (belowK_b (w := w) (Nat.le_refl _) W2 D (.deferred (some [])) (.deferred none) (by omega) HX.out.2.2.2.1 rfl rfl)
      refine ⟨.tuple #[.agg zB, .slice none 0 0, .int .i64 20], ?_, _, _, _, rfl, .inl ⟨HH.out, rfl, rfl, rfl⟩, hB4⟩
      simp [results, Try.results25, go_sem, c20, c21, c22, c3, c4, zB]
    · have hyo : oneC fk bs (allH (8 * bs.length) (crc16 0 bs) most) = (cellX y.1).toArray := by unfold oneC; rw [hH]
      have h1e := HI.out.one
      rw [hyo] at h1e
      have g60 := cell_of_row W (w.heap.size + 1 + 1 + 1 + 1 + 1 + 1) 0 _ _ _ h1e
      have g61 := cell_of_row W (w.heap.size + 1 + 1 + 1 + 1 + 1 + 1) 1 _ _ _ h1e
      have g62 := cell_of_row W (w.heap.size + 1 + 1 + 1 + 1 + 1 + 1) 2 _ _ _ h1e
      simp only [cellX, List.getElem?_toArray, List.getElem?_cons_zero, List.getElem?_cons_succ] at g60 g61 g62
      have HX0 : Hid (Blk (((((W.setCell ⟨w.heap.size + 1 + 1, 0, none⟩ (.int .i64 (y.1.a : Int))).setCell ⟨w.heap.size + 1 + 1, 1, none⟩ (.int .i64 (y.1.n : Int))).setCell ⟨w.heap.size + 1 + 1, 2, none⟩ (.int .i64 (y.1.p : Int))).setCell ⟨w.heap.size + 1 + 1 + 1, 0, none⟩ (.slice (some ⟨g2, 0, none⟩) bs.length cap2)).setCell ⟨w.heap.size + 1 + 1 + 1 + 1, 0, none⟩ (.int .i64 0)) (w.heap.size + 1 + 1) 28 (cellX y.1).toArray ∧ Boxed (((((W.setCell ⟨w.heap.size + 1 + 1, 0, none⟩ (.int .i64 (y.1.a : Int))).setCell ⟨w.heap.size + 1 + 1, 1, none⟩ (.int .i64 (y.1.n : Int))).setCell ⟨w.heap.size + 1 + 1, 2, none⟩ (.int .i64 (y.1.p : Int))).setCell ⟨w.heap.size + 1 + 1 + 1, 0, none⟩ (.slice (some ⟨g2, 0, none⟩) bs.length cap2)).setCell ⟨w.heap.size + 1 + 1 + 1 + 1, 0, none⟩ (.int .i64 0)) (w.heap.size + 1 + 1 + 1) 22 (.slice (some ⟨g2, 0, none⟩) bs.length cap2) ∧ Boxed (((((W.setCell ⟨w.heap.size + 1 + 1, 0, none⟩ (.int .i64 (y.1.a : Int))).setCell ⟨w.heap.size + 1 + 1, 1, none⟩ (.int .i64 (y.1.n : Int))).setCell ⟨w.heap.size + 1 + 1, 2, none⟩ (.int .i64 (y.1.p : Int))).setCell ⟨w.heap.size + 1 + 1 + 1, 0, none⟩ (.slice (some ⟨g2, 0, none⟩) bs.length cap2)).setCell ⟨w.heap.size + 1 + 1 + 1 + 1, 0, none⟩ (.int .i64 0)) (w.heap.size + 1 + 1 + 1 + 1) 37 (.int .i64 0) ∧ (((((W.setCell ⟨w.heap.size + 1 + 1, 0, none⟩ (.int .i64 (y.1.a : Int))).setCell ⟨w.heap.size + 1 + 1, 1, none⟩ (.int .i64 (y.1.n : Int))).setCell ⟨w.heap.size + 1 + 1, 2, none⟩ (.int .i64 (y.1.p : Int))).setCell ⟨w.heap.size + 1 + 1 + 1, 0, none⟩ (.slice (some ⟨g2, 0, none⟩) bs.length cap2)).setCell ⟨w.heap.size + 1 + 1 + 1 + 1, 0, none⟩ (.int .i64 0)).heap[D]? = some (.deferred (some [])) ∧ Below w.heap.size w (((((W.setCell ⟨w.heap.size + 1 + 1, 0, none⟩ (.int .i64 (y.1.a : Int))).setCell ⟨w.heap.size + 1 + 1, 1, none⟩ (.int .i64 (y.1.n : Int))).setCell ⟨w.heap.size + 1 + 1, 2, none⟩ (.int .i64 (y.1.p : Int))).setCell ⟨w.heap.size + 1 + 1 + 1, 0, none⟩ (.slice (some ⟨g2, 0, none⟩) bs.length cap2)).setCell ⟨w.heap.size + 1 + 1 + 1 + 1, 0, none⟩ (.int .i64 0))) := by
        have hO := HI.out
        refine ⟨?_, ?_, ?_, ?_, below_set (below_set (below_set (below_set (below_set hO.blw (by omega) _) (by omega) _) (by omega) _) (by omega) _) (by omega) _⟩
        · exact ((Blk.set3 h2e (.int .i64 (y.1.a : Int)) (.int .i64 (y.1.n : Int)) (.int .i64 (y.1.p : Int))).oth (by omega) _).oth (by omega) _
        · exact Blk.oth (k := w.heap.size + 1 + 1 + 1) (Boxed.set (.slice (some ⟨g2, 0, none⟩) bs.length cap2) (show Boxed _ (w.heap.size + 1 + 1 + 1) _ (.slice none 0 0) from ((Blk.oth (k := w.heap.size + 1 + 1 + 1) hO.r7 (by omega) _).oth (by omega) _).oth (by omega) _)) (by omega) _
        · exact Boxed.set (.int .i64 0) (show Boxed _ (w.heap.size + 1 + 1 + 1 + 1) _ (.int .i64 0) from (((Blk.oth (k := w.heap.size + 1 + 1 + 1 + 1) hO.r8 (by omega) _).oth (by omega) _).oth (by omega) _).oth (by omega) _)
        · exact ((KeepsOthers.setCell _ _ _).trans ((KeepsOthers.setCell _ _ _).trans ((KeepsOthers.setCell _ _ _).trans ((KeepsOthers.setCell _ _ _).trans (KeepsOthers.setCell _ _ _))))).same D _ HK.out rfl
      have HG2 : Hid (∀ W4 : World, Blk W4 g2 5 cs2 → Rd W4 (some ⟨g2, 0, none⟩) (bv (outB bs y.1))) := fun W4 h => rd_grown (B := 0) (row := none) hgb2 hgr2 h
      have HG3 : Hid (Blk (((((W.setCell ⟨w.heap.size + 1 + 1, 0, none⟩ (.int .i64 (y.1.a : Int))).setCell ⟨w.heap.size + 1 + 1, 1, none⟩ (.int .i64 (y.1.n : Int))).setCell ⟨w.heap.size + 1 + 1, 2, none⟩ (.int .i64 (y.1.p : Int))).setCell ⟨w.heap.size + 1 + 1 + 1, 0, none⟩ (.slice (some ⟨g2, 0, none⟩) bs.length cap2)).setCell ⟨w.heap.size + 1 + 1 + 1 + 1, 0, none⟩ (.int .i64 0)) g2 5 cs2) := ((((Blk.oth (k := g2) hgb2 (by omega) _).oth (by omega) _).oth (by omega) _).oth (by omega) _).oth (by omega) _
      have hgD : g2 ≠ D := by rintro rfl; have h := HK.out; rw [hgb2] at h; cases h
      have HH := Lib.hid hH
      clear hH h2e h1e hyo HI HK hv hgb2 hgr2
      gi_wp2
      refine wpIn_wide.2 ?_
      go_region
      gi_wp2
      generalize (((((W.setCell ⟨w.heap.size + 1 + 1, 0, none⟩ (.int .i64 (y.1.a : Int))).setCell ⟨w.heap.size + 1 + 1, 1, none⟩ (.int .i64 (y.1.n : Int))).setCell ⟨w.heap.size + 1 + 1, 2, none⟩ (.int .i64 (y.1.p : Int))).setCell ⟨w.heap.size + 1 + 1 + 1, 0, none⟩ (.slice (some ⟨g2, 0, none⟩) bs.length cap2)).setCell ⟨w.heap.size + 1 + 1 + 1 + 1, 0, none⟩ (.int .i64 0)) = W1 at *
      have HX : Hid (Blk W1.drew (w.heap.size + 1 + 1) 28 (cellX y.1).toArray ∧ Boxed W1.drew (w.heap.size + 1 + 1 + 1) 22 (.slice (some ⟨g2, 0, none⟩) bs.length cap2) ∧ Boxed W1.drew (w.heap.size + 1 + 1 + 1 + 1) 37 (.int .i64 0) ∧ W1.drew.heap[D]? = some (.deferred (some [])) ∧ Below w.heap.size w W1.drew) := ⟨HX0.out.1, HX0.out.2.1, HX0.out.2.2.1, HX0.out.2.2.2.1, HX0.out.2.2.2.2.drew⟩
      have HG5 : Hid (Blk W1.drew g2 5 cs2) := HG3.out
      generalize W1.drew = W2 at *
      clear HX0 HG3
      refine ⟨by simp, .inl ⟨_, _, rfl, run_takeDeferred HX.out.2.2.2.1, ?_⟩⟩
      have b2 := HX.out.1.put (D := D) (by omega) (.deferred none)
      have b3 := Blk.put (k := w.heap.size + 1 + 1 + 1) (D := D) HX.out.2.1 (by omega) (.deferred none)
      have b4 := Blk.put (k := w.heap.size + 1 + 1 + 1 + 1) (D := D) HX.out.2.2.1 (by omega) (.deferred none)
      have b5 := HG5.out.put (D := D) hgD (.deferred none)
      have c20 := cell_of_row _ (w.heap.size + 1 + 1) 0 _ _ _ b2
      have c21 := cell_of_row _ (w.heap.size + 1 + 1) 1 _ _ _ b2
      have c22 := cell_of_row _ (w.heap.size + 1 + 1) 2 _ _ _ b2
      have c3 := cell_of_row _ (w.heap.size + 1 + 1 + 1) 0 _ _ _ b3
      have c4 := cell_of_row _ (w.heap.size + 1 + 1 + 1 + 1) 0 _ _ _ b4
      simp only [cellX, List.getElem?_toArray, List.getElem?_cons_zero, List.getElem?_cons_succ] at c20 c21 c22 c3 c4
      have hB4 := HX.out.2.2.2.2.trans (belowK_b (w := w) (Nat.le_refl _) W2 D (.deferred (some [])) (.deferred none) (by omega) HX.out.2.2.2.1 rfl rfl)
      refine ⟨.tuple #[.agg (cellX y.1).toArray, .slice (some ⟨g2, 0, none⟩) bs.length cap2, .int .i64 0], ?_, _, _, _, rfl, .inr (.inl ⟨y, HH.out, rfl, ⟨_, _, rfl, hcap2, HG2.out _ b5⟩, rfl⟩), hB4⟩
      simp [results, Try.results25, go_sem, c20, c21, c22, c3, c4, cellX]
  case stop =>
    rintro D k pre W hD hSp ⟨rfl, ⟨L, rfl, hlen⟩, b6, b7, b8, hB⟩ hK
    have hDs : w.heap.size + 1 + 1 + 1 + 1 + 1 + 1 + 1 + 1 < D := by omega
    have HX : Hid (Blk W (w.heap.size + 1 + 1) 28 zB ∧ Boxed W (w.heap.size + 1 + 1 + 1) 22 (.slice none 0 0) ∧ Boxed W (w.heap.size + 1 + 1 + 1 + 1) 37 (.int .i64 19) ∧ W.heap[D]? = some (.deferred (some [])) ∧ Below w.heap.size w W) := ⟨b6, b7, b8, hK, hB⟩
    have HH : Hid (2 ≤ (Hs fk bs (allH (8 * bs.length) (crc16 0 bs) most)).length) := Nat.le_trans hlen (Hs_prefix fk bs hSp)
    clear b6 b7 b8 hK hB hlen hSp
    obtain ⟨W2, rfl⟩ : ∃ W2, W2 = W := ⟨_, rfl⟩
    gi_wp2
    refine ⟨by simp, .inl ⟨_, _, rfl, run_takeDeferred HX.out.2.2.2.1, ?_⟩⟩
    have b2 := HX.out.1.put (D := D) (by omega) (.deferred none)
    have b3 := Blk.put (k := w.heap.size + 1 + 1 + 1) (D := D) HX.out.2.1 (by omega) (.deferred none)
    have b4 := Blk.put (k := w.heap.size + 1 + 1 + 1 + 1) (D := D) HX.out.2.2.1 (by omega) (.deferred none)
    have c20 := cell_of_row _ (w.heap.size + 1 + 1) 0 _ _ _ b2
    have c21 := cell_of_row _ (w.heap.size + 1 + 1) 1 _ _ _ b2
    have c22 := cell_of_row _ (w.heap.size + 1 + 1) 2 _ _ _ b2
    have c3 := cell_of_row _ (w.heap.size + 1 + 1 + 1) 0 _ _ _ b3
    have c4 := cell_of_row _ (w.heap.size + 1 + 1 + 1 + 1) 0 _ _ _ b4
    simp only [zB, List.getElem?_toArray, List.getElem?_cons_zero, List.getElem?_cons_succ] at c20 c21 c22 c3 c4
    have hB4 := HX.out.2.2.2.2.trans (belowK_b (w := w) (Nat.le_refl _) W2 D (.deferred (some [])) (.deferred none) (by omega) HX.out.2.2.2.1 rfl rfl)
    refine ⟨.tuple #[.agg zB, .slice none 0 0, .int .i64 19], ?_, _, _, _, rfl, .inr (.inr ⟨HH.out, rfl, rfl, rfl⟩), hB4⟩
    simp [results, Try.results25, go_sem, c20, c21, c22, c3, c4, zB]
end Go.Proofs.Yticfmhmkgcdhgaa
