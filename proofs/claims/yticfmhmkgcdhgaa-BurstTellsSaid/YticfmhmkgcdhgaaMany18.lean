/-
  burst.Many: how many bursts there are.
-/
import Derived.Test.YticfmhmkgcdhgaaWide18
namespace Go.Proofs.Yticfmhmkgcdhgaa
open Go.RowKit Go.Shelf
open Crc (bl bk)

attribute [local go_sem] Oper.semAt_some

set_option maxRecDepth 100000 in
set_option maxHeartbeats 1600000 in
theorem Many_in (bs : List UInt8) (A : Option Addr) (c : Nat) (most : Int) (w : World) (hr : Rd w A (bv bs)) (hl : bs.length ≤ 240) (hn : A = none → bs.length = 0 ∧ c = 0) :
    CallsIn Fence.wide 3 Try.prog 14 #[.slice A bs.length c, .int .i64 most] w fun e w' => e = .returned (.int .i64 ((allH (8 * bs.length) (crc16 0 bs) most).length : Nat)) ∧ Below w.heap.size w w' := by
  have h1 : 1 ≤ 3 := by omega
  have hro : Fence.wide.round = none := rfl
  have HA := Lib.hid (fun W (h : Below w.heap.size w W) => All_any bs A c most W (hr.below h) (by omega) hn)
  clear hr hn
  refine callsIn_of_wp_marks Try.func14 rfl trivial ?_ hro
  simp only [Try.ntmps14, List.size_toArray, List.length_cons, List.length_nil, Nat.reduceAdd, Nat.reduceSub, Array.replicate_succ, Array.replicate_zero, List.push_toArray, List.append_toArray, List.nil_append, List.cons_append]
  gi_wp2_with (refine ⟨trivial, ?_⟩; gi_at_call 27; refine (callsIn_wide.2 (HA.out _ (by repeat (first | exact Below.refl _ _ | assumption | refine below_drewN ?_ _ | refine Below.drew ?_ | refine Below.alloc ?_ (Nat.le_refl _) _ | refine bal ?_ _ | refine bnext ?_ (by assumption))))).mono ?_; rintro e w1 ⟨rfl, hb1, hm1, hB1⟩; have Hb1 := Lib.hid hb1; have Hm1 := Lib.hid hm1; have HB1 := Lib.hid hB1; clear hb1 hm1 hB1)
  obtain ⟨A', c', hB1, hcc, hrd⟩ := HB1.out
  have bM := Hm1.out
  have hb1 := Hb1.out
  simp only [World.size_alloc] at bM hB1
  have bN : Boxed w1 w.heap.size 3 (.int .i64 0) := hrow_below (heap_alloc_last w _) hb1
  have hB0 : Below w.heap.size w w1 := bnext (bal (Below.refl _ _) _) hb1
  have hOS : w.heap.size + 2 < w1.heap.size := by have := bM.lt; omega
  clear Hb1 Hm1 HB1 HA hb1
  refine wpIn_rangeFunc_ownH hro h1 (gf := 33) (lb := #[.pointer (some ⟨w.heap.size + 1, 0, none⟩), .pointer (some ⟨w.heap.size + 1 + 1, 0, none⟩)]) rfl trivial (enters_of Try.func33 (by kernel_rfl) rfl)
    (all_stops (3 - 1) (by omega) (w.heap.size + 1) (w.heap.size + 1 + 1) w.heap.size bs A' c' most (by omega) w1 (by omega) hB1 hcc bM.cell hrd) KpB.t (KpB.b (by omega) (by omega)) (Below.refl _ _) (fun _ => rfl)
    (fun pre W => (Boxed W w.heap.size 3 (.int .i64 (pre.length : Nat)) ∧ Boxed W (w.heap.size + 1 + 1) 3 (.int .i64 most)) ∧ Below w.heap.size w W)
    (fun _ _ _ => False)
    (OwnFrom.and (OwnFrom.and (Own.from (boxed_own _ _ (fun (pre : List (BX (8 * bs.length))) => .int .i64 (pre.length : Nat))) _) (Own.from (boxed_own _ _ _) _)) (ownFrom_below (Nat.le_refl _) (by omega)))
    (fun _ _ _ _ _ hs _ _ => hs)
    ⟨⟨bN, bM⟩, hB0⟩
    (fun x a' W => a' = { tmps := #[.slice A bs.length c, .int .i64 most, undef, undef, .int .i64 0, .pointer (some ⟨w.heap.size, 0, none⟩), .slice A bs.length c, .int .i64 most, .func (.func 33) #[] #[.pointer (some ⟨w.heap.size + 1, 0, none⟩), .pointer (some ⟨w.heap.size + 1 + 1, 0, none⟩)], .agg #[.int .i64 (x.1.a : Int), .int .i64 (x.1.n : Int), .int .i64 (x.1.p : Int)], undef, undef, undef], defers := [] })
    (fun x a' _ X Y row hs hg hr => hs)
    ?assign ?body ?done ?stop
  case assign =>
    rintro l pre x W K ⟨⟨bN1, bM1⟩, hB1⟩ hK
    simp only [encX]
    gi_wp2
    exact hK _ _ ((KeepsOthers.refl _).from _) ⟨Below.refl _ _, rfl⟩ ⟨⟨bN1, bM1⟩, hB1⟩ (by simp [encX])
  case body =>
    rintro l pre x a' W hl ⟨r, hr⟩ ⟨⟨bN1, bM1⟩, hB1⟩ rfl hlt
    have hle : (pre.length : Int) ≤ 1920 := by omega
    have cN : W.cell? ⟨w.heap.size, 0, none⟩ = some (.int .i64 (pre.length : Nat)) := bN1.cell
    have fN : W.frozen? ⟨w.heap.size, 0, none⟩ = false := bN1.frozen
    have bN2 : Boxed W w.heap.size 3 (.int .i64 (pre.length : Nat)) := bN1
    gi_wp2
    have hs : Boxed (W.setCell ⟨w.heap.size, 0, none⟩ (.int .i64 ((pre.length : Int) + 1))) w.heap.size 3 (.int .i64 ((pre ++ [x]).length : Nat)) := by
      have h := bN2.set (.int .i64 ((pre.length : Int) + 1))
      rw [List.length_append]
      exact h
    exact ⟨(KeepsOthers.setCell _ _ _).from _, ⟨(Below.refl _ _).setCell (p := ⟨w.heap.size, 0, none⟩) (Nat.le_refl _) _ |>.mono (Nat.le_refl _), World.cell?_setCell_far _ _ _ _ (by simp <;> omega)⟩, ⟨⟨hs, bM1.other (by omega) _⟩, hB1.setCell (p := ⟨w.heap.size, 0, none⟩) (Nat.le_refl _) _⟩⟩
  case done =>
    rintro D ys W hD rfl ⟨⟨bN1, bM1⟩, hB1⟩ hK
    have cN := bN1.cell
    gi_wp2
    refine ⟨by simp, .inl ⟨_, _, rfl, run_takeDeferred hK, ?_⟩⟩
    have hB4 := hB1.trans (belowK_b (w := w) (Nat.le_refl _) W D (.deferred (some [])) (.deferred none) (by omega) hK rfl rfl)
    exact ⟨_, by simp [results, Try.results14, go_sem], rfl, hB4⟩
  case stop =>
    rintro D c pre W _ _ h _
    exact h.elim
theorem Many_any (bs : List UInt8) (A : Option Addr) (c : Nat) (most : Int) (w : World) (hr : Rd w A (bv bs)) (hl : bs.length ≤ 240) (hn : A = none → bs.length = 0 ∧ c = 0) :
    Calls Try.prog 14 #[.slice A bs.length c, .int .i64 most] w fun e w' => e = .returned (.int .i64 ((allB bs most).length : Nat)) ∧ Below w.heap.size w w' := by
  have h := (callsIn_wide (n := 3)).1 (Many_in bs A c most w hr hl hn)
  unfold allB
  rw [List.length_map]
  exact h
end Go.Proofs.Yticfmhmkgcdhgaa
