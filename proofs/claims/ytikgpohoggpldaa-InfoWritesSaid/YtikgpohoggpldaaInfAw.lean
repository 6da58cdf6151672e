/-
  jetsamlaw11.awake, info.Known.
-/
import Derived.Test.YtikgpohoggpldaaInfNil
import Derived.Test.YtikgpohoggpldaaInfEq
namespace Go.Proofs.Ytikgpohoggpldaa
open Go.RowKit

theorem RdP.new2 (w : World) (x y z u : Int) (t : TypeId) : RdP (w.alloc (.cells #[.int .i64 x, .int .i64 y, .int .i64 z, .int .i64 u] t)) (some ⟨w.heap.size, 0, none⟩) [(x, y), (z, u)] := by
  intro j v hv
  refine ⟨_, _, rfl, ?_⟩
  rw [cell_of_row _ w.heap.size _ _ _ (0, 0) (heap_alloc_last w _), cell_of_row _ w.heap.size _ _ _ (0, 0) (heap_alloc_last w _)]
  match j, hv with
  | 0, h => simp at h; subst h; simp
  | 1, h => simp at h; subst h; simp

theorem wpList_load_row_g {P : Program} {ops : Array Oper} {rest : List Oper} {o : Oper} {a : Act} {w : World} {Q : Exit → Act → World → Prop} (hw : Region.wanted o (yielded ops a.tmps) = true) (ty : TypeId) (x : Operand) (ho : o.op = .load ty x)
    (g : Nat) (hx : a.eval x = .pointer (some ⟨g, 0, none⟩)) (t : TypeId) (cs : Array Value) (fr : Nat × Nat) (d : TypeDesc) (hg : w.heap[g]? = some (.cells cs t fr))
    (hu : P.underlying ty = some d) (hd : (match d with | .struct _ | .array _ _ => true | _ => false) = true) (hi : (P.info? ty).map (·.size) = some cs.size)
    (h : wpList P ops Q rest (a.put o.dst (.agg cs)) w) : wpList P ops Q (o :: rest) a w :=
  wpList_step fun K hK => by
    simp only [hw, if_true]
    exact wp_load_row ty x ho g hx t cs fr d hg hu hd hi (hK _ _ h)

theorem InfAt.sum {w : World} {g : Nat} {p0 p1 p2 a b c d e : Int} {s : Nat → Int} (h : InfAt w g p0 p1 p2 a b c d e s) : w.rangeAt g 8 [.int .u8 (s 0), .int .u8 (s 1), .int .u8 (s 2), .int .u8 (s 3), .int .u8 (s 4), .int .u8 (s 5), .int .u8 (s 6), .int .u8 (s 7), .int .u8 (s 8), .int .u8 (s 9), .int .u8 (s 10), .int .u8 (s 11), .int .u8 (s 12), .int .u8 (s 13), .int .u8 (s 14), .int .u8 (s 15)] := by
  intro j v hv
  rw [cell_of_row w g _ _ _ _ h]
  match j, hv with
  | 0, hv => exact hv
  | 1, hv => exact hv
  | 2, hv => exact hv
  | 3, hv => exact hv
  | 4, hv => exact hv
  | 5, hv => exact hv
  | 6, hv => exact hv
  | 7, hv => exact hv
  | 8, hv => exact hv
  | 9, hv => exact hv
  | 10, hv => exact hv
  | 11, hv => exact hv
  | 12, hv => exact hv
  | 13, hv => exact hv
  | 14, hv => exact hv
  | 15, hv => exact hv
  | n + 16, hv => simp at hv

set_option maxHeartbeats 400000 in
theorem Known_any (r : Bool) (p0 p1 p2 a b c d e : Int) (s : Nat → Int) (hr : ∀ w, (binOp .neq 24 (.agg #[.int .u8 (s 0), .int .u8 (s 1), .int .u8 (s 2), .int .u8 (s 3), .int .u8 (s 4), .int .u8 (s 5), .int .u8 (s 6), .int .u8 (s 7), .int .u8 (s 8), .int .u8 (s 9), .int .u8 (s 10), .int .u8 (s 11), .int .u8 (s 12), .int .u8 (s 13), .int .u8 (s 14), .int .u8 (s 15)]) (.agg #[.int .u8 0, .int .u8 0, .int .u8 0, .int .u8 0, .int .u8 0, .int .u8 0, .int .u8 0, .int .u8 0, .int .u8 0, .int .u8 0, .int .u8 0, .int .u8 0, .int .u8 0, .int .u8 0, .int .u8 0, .int .u8 0])).run Try.prog w = .ok (.bool r) w) (w : World) :
    Calls Try.prog 22 #[.agg (ofV p0 p1 p2 a b c d e s)] w fun e w' => e = .returned (.bool r) ∧ Below w.heap.size w w' := by
  have hI : InfAt (w.alloc (.cells (ofV p0 p1 p2 a b c d e s) 34)) w.heap.size p0 p1 p2 a b c d e s := InfAt.new rfl
  have HI := Lib.hid hI; clear hI
  simp only [ofV] at HI ⊢
  go_enter Try.func22, Try.ntmps22
  go_wp2_with (refine wpList_load_mid rfl 24 _ rfl w.heap.size 8 rfl [.int .u8 (s 0), .int .u8 (s 1), .int .u8 (s 2), .int .u8 (s 3), .int .u8 (s 4), .int .u8 (s 5), .int .u8 (s 6), .int .u8 (s 7), .int .u8 (s 8), .int .u8 (s 9), .int .u8 (s 10), .int .u8 (s 11), .int .u8 (s 12), .int .u8 (s 13), .int .u8 (s 14), .int .u8 (s 15)] _ (InfAt.sum HI.out) Try.underlying24 rfl (by kernel_rfl) ?_)
  go_ret
  exact ⟨rfl, by repeat (first | exact Below.refl _ _ | assumption | refine below_drewN ?_ _ | refine Below.drew ?_ | refine Below.alloc ?_ (Nat.le_refl _) _ | refine bal ?_ _ | refine bnext ?_ (by assumption))⟩

theorem neq_zero (w : World) : (binOp .neq 24 (.agg #[.int .u8 0, .int .u8 0, .int .u8 0, .int .u8 0, .int .u8 0, .int .u8 0, .int .u8 0, .int .u8 0, .int .u8 0, .int .u8 0, .int .u8 0, .int .u8 0, .int .u8 0, .int .u8 0, .int .u8 0, .int .u8 0]) (.agg #[.int .u8 0, .int .u8 0, .int .u8 0, .int .u8 0, .int .u8 0, .int .u8 0, .int .u8 0, .int .u8 0, .int .u8 0, .int .u8 0, .int .u8 0, .int .u8 0, .int .u8 0, .int .u8 0, .int .u8 0, .int .u8 0])).run Try.prog w = .ok (.bool false) w := by
  rw [run_neq_struct]
  have h := eq_sum w 9998 (fun _ => 0)
  rw [h]; rfl

set_option maxHeartbeats 400000 in
theorem awake_any (w : World) :
    Calls Try.prog 10 #[] w fun e w' => e = .returned (.bool true) ∧ Below w.heap.size w w' := by
  go_enter Try.func10, Try.ntmps10
  go_wp2_with fail
  refine (Of_any 44100 2 16 (fun _ => 0) [(64, 100), (20, 50)] _ 2 _ (RdP.new2 w 64 100 20 50 _) (Nat.le_refl _) (by decide) (by decide) (by decide)).mono ?_
  rintro e w1 ⟨rfl, hb1⟩
  have hb : Below w.heap.size w w1 := bnext (by repeat (first | exact Below.refl _ _ | assumption | refine below_drewN ?_ _ | refine Below.drew ?_ | refine Below.alloc ?_ (Nat.le_refl _) _ | refine bal ?_ _ | refine bnext ?_ (by assumption))) hb1
  rw [show ofV 44100 2 16 (mnP (bk [(64, 100), (20, 50)]) (max 1 ([((64 : Int), (100 : Int)), (20, 50)].length - 1))) (mxP (bk [(64, 100), (20, 50)]) [((64 : Int), (100 : Int)), (20, 50)].length) (knI (mfP (by' [(64, 100), (20, 50)]) [((64 : Int), (100 : Int)), (20, 50)].length)) (knI (xfP (by' [(64, 100), (20, 50)]) [((64 : Int), (100 : Int)), (20, 50)].length)) (ttP (bk [(64, 100), (20, 50)]) [((64 : Int), (100 : Int)), (20, 50)].length) (fun _ => 0) = ofV 44100 2 16 64 64 50 100 84 (fun _ => 0) from by kernel_rfl]
  clear hb1
  simp only [ofV]
  have hq := fun w => eql_info w 44100 2 16 64 64 50 100 84 (fun _ => 0)
  have Hk := Lib.hid (Known_any false 44100 2 16 64 64 50 100 84 (fun _ => 0) neq_zero)
  simp only [ofV] at hq
  go_step
  go_step
  go_step
  go_step
  refine wpList_store_new rfl 34 _ _ rfl _ rfl rfl rfl (by kernel_rfl) (by rfl) (ofV_one 44100 2 16 64 64 50 100 84 (fun _ => 0)) ?_
  intro w3 hw3
  have hb3 : Below w.heap.size w w3 := by rw [← hw3]; exact bal hb _
  have hI : InfAt w3 w1.heap.size 44100 2 16 64 64 50 100 84 fun _ => 0 := by rw [← hw3]; exact InfAt.new (w := w1) (p0 := 44100) (p1 := 2) (p2 := 16) (a := 64) (b := 64) (c := 50) (d := 100) (e := 84) (s := fun _ => 0) rfl
  have hI' : w3.heap[w1.heap.size]? = some (.cells #[.int .i64 44100, .int .i64 2, .int .i64 16, .int .i64 64, .int .i64 64, .int .i64 50, .int .i64 100, .int .i64 84, .int .u8 0, .int .u8 0, .int .u8 0, .int .u8 0, .int .u8 0, .int .u8 0, .int .u8 0, .int .u8 0, .int .u8 0, .int .u8 0, .int .u8 0, .int .u8 0, .int .u8 0, .int .u8 0, .int .u8 0, .int .u8 0] 34 (0, 0)) := by
    unfold InfAt ofV at hI; exact hI
  have HI := Lib.hid hI'
  clear hw3 hI hI'
  go_wp2_with (refine wpList_load_row_g (by rfl) 34 _ rfl w1.heap.size rfl 34 #[.int .i64 44100, .int .i64 2, .int .i64 16, .int .i64 64, .int .i64 64, .int .i64 50, .int .i64 100, .int .i64 84, .int .u8 0, .int .u8 0, .int .u8 0, .int .u8 0, .int .u8 0, .int .u8 0, .int .u8 0, .int .u8 0, .int .u8 0, .int .u8 0, .int .u8 0, .int .u8 0, .int .u8 0, .int .u8 0, .int .u8 0, .int .u8 0] (0, 0) _ HI.out Try.underlying34 rfl (by kernel_rfl) ?_)
  refine (Hk.out _).mono ?_
  rintro e w4 ⟨rfl, hb4⟩
  go_wp2_with fail
  go_ret
  exact ⟨rfl, bnext hb3 hb4⟩
end Go.Proofs.Ytikgpohoggpldaa
