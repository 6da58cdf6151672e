/-
  jetsamlaw18.listed: all bursts.
-/
import Derived.Test.YticfmhmkgcdhgaaBo15
import Derived.Maps.AppendAt
set_option linter.unusedSimpArgs false
set_option linter.unusedVariables false
namespace Go.Proofs.Yticfmhmkgcdhgaa
open Go.RowKit Go.Shelf
open Crc (bl bk)

attribute [local go_sem] Oper.semAt_some

theorem run_eql_func_nil {P : Program} (w : World) {t : TypeId} {ps rs : Array TypeId} {b : Bool} (f : Fn) (r l : Array Value) (ht : P.underlying t = some (.func ps rs b)) :
    (binOp .eql t (.func f r l) .nilFunc).run P w = .ok (.bool false) w := by
  have h : ∀ d : Nat, (Op.equalIn (d + 1) t (.func f r l) .nilFunc).run P w = .ok false w := fun d => by
    simp [Op.equalIn, run_underlying ht]
  simp only [binOp]
  simp [Op.equal, Op.maxDepth, h 9999]

def cellX (x : B3) : List Value := [.int .i64 (x.a : Int), .int .i64 (x.n : Int), .int .i64 (x.p : Int)]
def cellsX {N : Nat} (l : List (BX N)) : List Value := l.flatMap fun x => cellX x.1
theorem cellsX_snoc {N : Nat} (l : List (BX N)) (x : BX N) : cellsX (l ++ [x]) = cellsX l ++ cellX x.1 := by simp [cellsX]
theorem info_burst : (Try.prog.info? 28).map (fun i => (i.zero, i.size, i.bytes)) = some (some (.agg #[.int .i64 0, .int .i64 0, .int .i64 0]), 3, 24) := by kernel_rfl
/-- A block that is known whole. -/
def Blk (W : World) (B : Nat) (t : TypeId) (cs : Array Value) : Prop := W.heap[B]? = some (.cells cs t (0, 0))
theorem blk_own {β : Type} (B : Nat) (t : TypeId) (f : β → Array Value) : Own (fun s W => Blk W B t (f s)) := fun s X Y row hs hg hrow =>
  (hg.block B (Array.getElem?_eq_some_iff.1 hs).1 (fun e' => by obtain ⟨o, ho, hc⟩ := hrow B e'.symm; rw [show X.heap[B]? = _ from hs] at ho; cases ho; cases hc)).trans hs
theorem Blk.alloc {W : World} {B : Nat} {t : TypeId} {cs : Array Value} (h : Blk W B t cs) (o : Obj) : Blk (W.alloc o) B t cs := hrow_alloc h o
theorem Blk.lt {W : World} {B : Nat} {t : TypeId} {cs : Array Value} (h : Blk W B t cs) : B < W.heap.size := (Array.getElem?_eq_some_iff.1 h).1
theorem Blk.new (W : World) (t : TypeId) (cs : Array Value) : Blk (W.alloc (.cells cs t)) W.heap.size t cs := heap_alloc_last W _
theorem Boxed.below {A B : World} {k : Nat} {t : TypeId} {v : Value} (h : Boxed A k t v) (hb : Below A.heap.size A B) : Boxed B k t v := hrow_below h hb

theorem own_form {w : World} {B s n : Nat} {e : TypeId} {v : Value} {xs : List Value} (h : w.ownsRow B e s v n xs) : ∃ A c, v = .slice A n c := by
  rcases h.2 with ⟨rfl, h0⟩ | ⟨g, cap, cur, rfl, _⟩
  · exact ⟨none, 0, by rw [h0]⟩
  · exact ⟨_, _, rfl⟩
theorem cellT_new (W : World) (x : B3) : ∀ (j : Nat) (u : Value), (cellX x)[j]? = some u → (W.alloc (.cells #[.int .i64 (x.a : Int), .int .i64 (x.n : Int), .int .i64 (x.p : Int)] 28)).cell? ((⟨W.heap.size, 0, none⟩ : Addr).add j) = some u := by
  intro j u hu
  rw [show (⟨W.heap.size, 0, none⟩ : Addr).add j = ⟨W.heap.size, 0 + j, none⟩ from by unfold Addr.add; split <;> simp_all, Nat.zero_add, cell_of_row _ W.heap.size j _ _ _ (heap_alloc_last W _)]
  simpa [cellX] using hu
theorem oneX (x : B3) : ∀ u ∈ cellX x, u.oneCell' = true := by
  intro u hu
  simp [cellX] at hu
  rcases hu with rfl | rfl | rfl <;> rfl
set_option maxRecDepth 100000 in
set_option maxHeartbeats 4000000 in
theorem listed_in (bs : List UInt8) (A : Option Addr) (c : Nat) (most : Int) (w : World) (hr : Rd w A (bv bs)) (hl : bs.length ≤ 240) (hn : A = none → bs.length = 0 ∧ c = 0) :
    CallsIn Fence.wide 3 Try.prog 11 #[.slice A bs.length c, .int .i64 most] w fun e w' => ∃ v, e = .returned (.tuple #[v, .bool true]) ∧
      w'.ownsRow w.heap.size 28 3 v (allH (8 * bs.length) (crc16 0 bs) most).length (cellsX (allH (8 * bs.length) (crc16 0 bs) most)) ∧ Below w.heap.size w w' := by
  have h1 : 1 ≤ 3 := by omega
  have hro : Fence.wide.round = none := rfl
  have HA := Lib.hid (fun W (h : Below w.heap.size w W) => All_any bs A c most W (hr.below h) (by omega) hn)
  clear hr hn
  have hq := fun W => run_eql_func_nil (P := Try.prog) W (.func 33) #[] #[.pointer (some ⟨w.heap.size + 1 + 1, 0, none⟩), .pointer (some ⟨w.heap.size + 1 + 1 + 1, 0, none⟩)] Try.underlying56
  refine callsIn_of_wp_marks Try.func11 rfl trivial ?_ hro
  simp only [Try.ntmps11, List.size_toArray, List.length_cons, List.length_nil, Nat.reduceAdd, Nat.reduceSub, Array.replicate_succ, Array.replicate_zero, List.push_toArray, List.append_toArray, List.nil_append, List.cons_append]
  gi_wp2_with (refine ⟨trivial, ?_⟩; gi_at_call 27; refine (callsIn_wide.2 (HA.out _ (by repeat (first | exact Below.refl _ _ | assumption | refine below_drewN ?_ _ | refine Below.drew ?_ | refine Below.alloc ?_ (Nat.le_refl _) _ | refine bal ?_ _ | refine bnext ?_ (by assumption))))).mono ?_; rintro e w1 ⟨rfl, hb1, hm1, hB1⟩; have Hb1 := Lib.hid hb1; have Hm1 := Lib.hid hm1; have HB1 := Lib.hid hB1; clear hb1 hm1 hB1)
  obtain ⟨A', c', hB1, hcc, hrd⟩ := HB1.out
  obtain ⟨OB, hOB⟩ : ∃ OB, w1.heap.size = OB := ⟨_, rfl⟩
  obtain ⟨W3, hW3, hB0, hz3, bM, cB, hrd3, bR, bK, bO⟩ : ∃ W3, w1.alloc (.cells #[.slice none 0 0] 24) = W3 ∧ Below w.heap.size w W3 ∧ W3.heap.size = OB + 1 ∧ Boxed W3 (w.heap.size + 1 + 1 + 1) 3 (.int .i64 most) ∧ W3.cell? ⟨w.heap.size + 1 + 1, 0, none⟩ = some (.slice A' bs.length c') ∧ Rd W3 A' (bv bs) ∧
      Boxed W3 w.heap.size 24 (.slice none 0 0) ∧ Boxed W3 (w.heap.size + 1) 4 (.bool false) ∧ Boxed W3 OB 24 (.slice none 0 0) := by
    have hb := Hb1.out
    have hm := Hm1.out
    simp only [World.size_alloc] at hm hB1
    refine ⟨_, rfl, bal (bnext (bal (bal (Below.refl _ _) _) _) hb) _, by simp [hOB], ?_, ?_, hrd.alloc _, ?_, ?_, by rw [← hOB]; exact Boxed.new _ _ _⟩
    · exact hm.alloc _
    · exact ((bal (Below.refl _ w1) _).cell (p := ⟨w.heap.size + 1 + 1, 0, none⟩) (cell_lt hB1)).trans hB1
    · exact hrow_alloc (hrow_below (hrow_alloc (heap_alloc_last w _) _) hb) _
    · have h2 := heap_alloc_last (w.alloc (.cells #[.slice none 0 0] 24)) (.cells #[.bool false] 4)
      rw [World.size_alloc] at h2
      exact hrow_alloc (hrow_below h2 hb) _
  have hOS : w.heap.size + 3 < OB := by
    have hm := Hm1.out
    have := hm.lt
    simp only [World.size_alloc] at this
    omega
  rw [hW3, hOB]
  clear hW3 hOB Hb1 Hm1 HB1 hB1 hrd HA
  have H8 := Lib.hid (hits_length (8 * bs.length) (crc16 0 bs) most)
  refine wpIn_rangeFunc_ownH hro h1 (gf := 33) (lb := #[.pointer (some ⟨w.heap.size + 1 + 1, 0, none⟩), .pointer (some ⟨w.heap.size + 1 + 1 + 1, 0, none⟩)]) rfl trivial (enters_of Try.func33 (by kernel_rfl) rfl)
    (all_stops (3 - 1) (by omega) (w.heap.size + 1 + 1) (w.heap.size + 1 + 1 + 1) w.heap.size bs A' c' most (by omega) W3 (by omega) cB hcc bM.cell hrd3) KpB.t (KpB.b (by omega) (by omega)) (Below.refl _ _) (fun _ => rfl)
    (fun pre W => ((∃ v, Boxed W OB 24 v ∧ W.ownsRow w.heap.size 28 3 v pre.length (cellsX pre) ∧ True) ∧ Boxed W w.heap.size 24 (.slice none 0 0) ∧ Boxed W (w.heap.size + 1) 4 (.bool false) ∧ Boxed W (w.heap.size + 1 + 1 + 1) 3 (.int .i64 most)) ∧ Below w.heap.size w W)
    (fun _ _ _ => False)
    (OwnFrom.and (OwnFrom.and (Own.from (holdsRow_own w.heap.size OB 24 28 3 (fun (pre : List (BX (8 * bs.length))) => pre.length) (fun pre => cellsX pre) (fun _ _ => True)) _) (OwnFrom.and (Own.from (boxed_own _ _ _) _) (OwnFrom.and (Own.from (boxed_own _ _ _) _) (Own.from (boxed_own _ _ _) _)))) (ownFrom_below (Nat.le_refl _) (by omega)))
    (fun _ _ _ _ _ hs _ _ => hs)
    ⟨⟨⟨_, bO, World.ownsRow_nil _ _ _ 3, trivial⟩, bR, bK, bM⟩, hB0⟩
    (fun x a' W => ∃ Bx, OB < Bx ∧ Blk W Bx 28 (cellX x.1).toArray ∧ a' = { tmps := #[.slice A bs.length c, .int .i64 most, undef, undef, .pointer (some ⟨w.heap.size, 0, none⟩), .pointer (some ⟨w.heap.size + 1, 0, none⟩), .func (.func 33) #[] #[.pointer (some ⟨w.heap.size + 1 + 1, 0, none⟩), .pointer (some ⟨w.heap.size + 1 + 1 + 1, 0, none⟩)], .pointer (some ⟨OB, 0, none⟩), .pointer (some ⟨Bx, 0, none⟩), .slice A bs.length c, .int .i64 most, .func (.func 33) #[] #[.pointer (some ⟨w.heap.size + 1 + 1, 0, none⟩), .pointer (some ⟨w.heap.size + 1 + 1 + 1, 0, none⟩)], .func (.func 33) #[] #[.pointer (some ⟨w.heap.size + 1 + 1, 0, none⟩), .pointer (some ⟨w.heap.size + 1 + 1 + 1, 0, none⟩)], .bool false, .func (.func 33) #[] #[.pointer (some ⟨w.heap.size + 1 + 1, 0, none⟩), .pointer (some ⟨w.heap.size + 1 + 1 + 1, 0, none⟩)], .agg #[.int .i64 (x.1.a : Int), .int .i64 (x.1.n : Int), .int .i64 (x.1.p : Int)], undef, undef, undef, undef, undef, undef, undef, undef], defers := [] })
    (fun x a' _ X Y row hs hg hr => by obtain ⟨Bx, h1, h2, h3⟩ := hs; exact ⟨Bx, h1, blk_own Bx 28 (fun (_ : Unit) => (cellX x.1).toArray) () X Y row h2 hg (fun r e => (hr r e).2), h3⟩)
    ?assign ?body ?done ?stop
  case assign =>
    rintro l pre x W K ⟨⟨⟨v, bO1, hrow1, -⟩, bR1, bK1, bM1⟩, hB1⟩ hK
    simp only [encX]
    gi_wp2
    exact hK _ _ ((KeepsOthers.alloc _ _).from _) (KpB.of (bal (Below.refl _ _) _) hB1.size (by have := bO1.lt; omega)) ⟨⟨⟨v, bO1.alloc _, hrow1.alloc _, trivial⟩, bR1.alloc _, bK1.alloc _, bM1.alloc _⟩, bal hB1 _⟩ ⟨W.heap.size, bO1.lt, Blk.new W _ _, rfl⟩
  case body =>
    rintro l pre x a' W hl ⟨r, hr⟩ ⟨⟨⟨v, bO1, hrow1, -⟩, bR1, bK1, bM1⟩, hB1⟩ ⟨Bx, hBx, bX, rfl⟩ hlt
    have hle : pre.length ≤ 1920 := by omega
    have cO := bO1.cell
    have hX0 := cell_of_row W Bx 0 _ _ _ bX
    have hX1 := cell_of_row W Bx 1 _ _ _ bX
    have hX2 := cell_of_row W Bx 2 _ _ _ bX
    simp only [cellX, List.getElem?_toArray, List.getElem?_cons_zero, List.getElem?_cons_succ] at hX0 hX1 hX2
    have Hsn := Lib.hid (cellsX_snoc pre x)
    obtain ⟨i0, hi, hz0, hz1, hz2⟩ := info_parts info_burst
    gi_wp2_with (gi_at_builtin; refine wpListIn_append_own _ rfl _ _ 24 rfl w.heap.size 28 i0 _ 3 24 Try.underlying24 hi hz0 hz1 hz2 rfl (by decide) _ _ _ rfl (hrow1.alloc _) ⟨W.heap.size, 0, none⟩ 1 1 (cellX x.1) rfl rfl (cellT_new W x.1) (oneX x.1) (by unfold maxLen; omega) (by omega) (by have := hB1.size; simp; omega) ?_; intro v' w1 hown' hgrow _; obtain ⟨g', cap', rfl⟩ := ownsRow_succ hown'; obtain ⟨hv1, hv2, hr2, hk2, hb2⟩ := bO1.appended (by decide) hrow1 hB1.size (by omega) hown' hgrow; have hc1 := hv1.cell; have hf1 := hv1.frozen)
    have bR2 := ((bR1.alloc _).kept hgrow (bR1.not_row (by decide) hrow1)).other (B' := OB) (by omega) (.slice (some ⟨g', 0, none⟩) (pre.length + 1) cap')
    have bK2 := ((bK1.alloc _).kept hgrow (bK1.not_row (by decide) hrow1)).other (B' := OB) (by omega) (.slice (some ⟨g', 0, none⟩) (pre.length + 1) cap')
    have bM2 := ((bM1.alloc _).kept hgrow (bM1.not_row (by decide) hrow1)).other (B' := OB) (by omega) (.slice (some ⟨g', 0, none⟩) (pre.length + 1) cap')
    exact ⟨hk2.from _, ⟨hb2, bM2.cell.trans bM1.cell.symm⟩, ⟨⟨_, hv2, by rw [List.length_append, Hsn.out]; exact hr2, trivial⟩, bR2, bK2, bM2⟩, hB1.trans hb2⟩
  case done =>
    rintro D ys W hD rfl ⟨⟨⟨v, bO1, hrow1, -⟩, bR1, bK1, bM1⟩, hB1⟩ hK
    have cO := bO1.cell
    have cR := bR1.cell
    have cK := bK1.cell
    have fR := bR1.frozen
    have fK := bK1.frozen
    obtain ⟨AL, hAL⟩ : ∃ AL, allH (8 * bs.length) (crc16 0 bs) most = AL := ⟨_, rfl⟩
    rw [hAL] at hrow1
    have HAL := Lib.hid hAL
    clear hAL
    obtain ⟨A9, c9, rfl⟩ := own_form hrow1
    have bR2 : Boxed ((W.setCell ⟨w.heap.size, 0, none⟩ (.slice A9 AL.length c9)).setCell ⟨w.heap.size + 1, 0, none⟩ (.bool true)) w.heap.size 24 (.slice A9 AL.length c9) := (bR1.set _).other (by omega) _
    have bK2 : Boxed ((W.setCell ⟨w.heap.size, 0, none⟩ (.slice A9 AL.length c9)).setCell ⟨w.heap.size + 1, 0, none⟩ (.bool true)) (w.heap.size + 1) 4 (.bool true) := (bK1.other (by omega) _).set _
    have hK2 : ((W.setCell ⟨w.heap.size, 0, none⟩ (.slice A9 AL.length c9)).setCell ⟨w.heap.size + 1, 0, none⟩ (.bool true)).heap[D]? = some (.deferred (some [])) := ((KeepsOthers.setCell _ _ _).trans (KeepsOthers.setCell _ _ _)).same D _ hK rfl
    have hr2 := (hrow1.kept (grownBy_setCell' W w.heap.size (.slice A9 AL.length c9)) (.inr (bR1.not_row (by decide) hrow1).symm)).kept (grownBy_setCell' _ (w.heap.size + 1) (.bool true)) (.inr ((bK1.other (B' := w.heap.size) (by omega) (.slice A9 AL.length c9)).not_row (by decide) (hrow1.kept (grownBy_setCell' W w.heap.size (.slice A9 AL.length c9)) (.inr (bR1.not_row (by decide) hrow1).symm))).symm)
    have hB2 : Below w.heap.size w ((W.setCell ⟨w.heap.size, 0, none⟩ (.slice A9 AL.length c9)).setCell ⟨w.heap.size + 1, 0, none⟩ (.bool true)) := (hB1.setCell (p := ⟨w.heap.size, 0, none⟩) (Nat.le_refl _) _).setCell (p := ⟨w.heap.size + 1, 0, none⟩) (Nat.le_succ _) _
    have HX := Lib.hid (And.intro bR2 (And.intro bK2 (And.intro hK2 (And.intro hr2 hB2))))
    clear bR2 bK2 hK2 hr2 hB2 hrow1 hK
    gi_wp2
    obtain ⟨bR2, bK2, hK2, hr2, hB2⟩ := HX.out
    generalize (W.setCell ⟨w.heap.size, 0, none⟩ (.slice A9 AL.length c9)).setCell ⟨w.heap.size + 1, 0, none⟩ (.bool true) = W2 at *
    refine ⟨by simp, .inl ⟨_, _, rfl, run_takeDeferred hK2, ?_⟩⟩
    have cR4 := (bR2.kept (grownBy_putObj' W2 D (.deferred none)) (fun e => by injection e with e; omega)).cell
    have cK4 := (bK2.kept (grownBy_putObj' W2 D (.deferred none)) (fun e => by injection e with e; omega)).cell
    have hB4 := hB2.trans (belowK_b (w := w) (Nat.le_refl _) W2 D (.deferred (some [])) (.deferred none) (by omega) hK2 rfl rfl)
    have hr4 := ownsRow_putObj hr2 (.deferred none) hK2 rfl
    refine ⟨.tuple #[.slice A9 AL.length c9, .bool true], ?_, ⟨_, rfl, by rw [HAL.out]; exact hr4, hB4⟩⟩
    simp [results, Try.results11, go_sem, cR4, cK4]
  case stop =>
    rintro D c pre W _ _ h _
    exact h.elim
theorem listed_any (bs : List UInt8) (A : Option Addr) (c : Nat) (most : Int) (w : World) (hr : Rd w A (bv bs)) (hl : bs.length ≤ 240) (hn : A = none → bs.length = 0 ∧ c = 0) :
    Calls Try.prog 11 #[.slice A bs.length c, .int .i64 most] w fun e w' => ∃ v, e = .returned (.tuple #[v, .bool true]) ∧
      w'.ownsRow w.heap.size 28 3 v (allH (8 * bs.length) (crc16 0 bs) most).length (cellsX (allH (8 * bs.length) (crc16 0 bs) most)) ∧ Below w.heap.size w w' :=
  (callsIn_wide (n := 3)).1 (listed_in bs A c most w hr hl hn)
end Go.Proofs.Yticfmhmkgcdhgaa
