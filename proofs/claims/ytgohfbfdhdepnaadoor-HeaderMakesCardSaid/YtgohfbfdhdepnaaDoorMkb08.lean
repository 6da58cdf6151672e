/-
  header.Make: its walk.
-/
import Derived.Test.YtgohfbfdhdepnaaDoorChk08
import Derived.StillTailTactics
import Derived.Deep.DeepCutAuto
namespace Go.Proofs.YtgohfbfdhdepnaaDoor
open Go.RowKit

def bcOf (b : Int) : Int := if idxL blkL b < 0 then 7 - (bitV (decide (b ≤ 256)) : Int) else idxL blkL b
def rcAt (r : Int) : Nat → Int
  | 0 => 0
  | k + 1 => if rFits (14 - k) r then 14 - k else rcAt r k
def rcOf (r : Int) : Int := if idxL ratL r < 0 then rcAt r 3 else idxL ratL r
def dcOf (d : Int) : Int := max 0 (idxL depL d)
def mkH (V : Bool) (n b m rate depth : Int) : Hd := ⟨V, bcOf b, rcOf rate, m, dcOf depth, n, b, if 0 < rcOf rate then rate else 0, depL.getD (dcOf depth).toNat 0⟩
def badM (b rate depth : Int) : Prop := b < 1 ∨ 65535 < b ∨ rate < 0 ∨ 1048575 < rate ∨ depth < 4 ∨ 32 < depth
instance (b rate depth : Int) : Decidable (badM b rate depth) := by unfold badM; infer_instance
def chanM (m chans : Int) : Int := fstE [chE m, if (chN m != chans) then (22 : Int) else 0]
def mkE (V : Bool) (n b m rate chans depth : Int) : Int := if badM b rate depth then 10 else if chanM m chans = 0 then chkE (mkH V n b m rate depth) else chanM m chans
def mkR (V : Bool) (n b m rate chans depth : Int) : Hd := if mkE V n b m rate chans depth = 0 then mkH V n b m rate depth else Hd.zero

theorem HdAt.set {w : World} {B : Nat} {h : Hd} (k : HdAt w B h) (i : Nat) (v : Value) (h' : Hd) (e : h.cells.setIfInBounds i v = h'.cells) : HdAt (w.setCell ⟨B, i, none⟩ v) B h' := by
  have := heap_setCell_same w B i _ _ v k
  rw [e] at this
  exact this
theorem row_other {w : World} {B g : Nat} {cs : Array Value} {t : TypeId} (k : w.heap[B]? = some (.cells cs t (0, 0))) (hne : B ≠ g) (i : Nat) (v : Value) : (w.setCell ⟨g, i, none⟩ v).heap[B]? = some (.cells cs t (0, 0)) :=
  ((Fr.refl (fun k => k = g) w).setCell (p := ⟨g, i, none⟩) rfl v).row k (fun e => hne e)
/-- Make, under way: the parameters, the result, the header. -/
structure Mk (w W : World) (rate chans depth : Int) (h : Hd) : Prop where
  p : W.heap[w.heap.size]? = some (.cells #[.int .i64 rate, .int .i64 chans, .int .i64 depth] 38 (0, 0))
  r : HdAt W (w.heap.size + 1) Hd.zero
  h : HdAt W (w.heap.size + 1 + 1 + 1) h
  b : Below w.heap.size w W
theorem Mk.below {w W W' : World} {rate chans depth : Int} {h : Hd} (k : Mk w W rate chans depth h) (hb : Below W.heap.size W W') : Mk w W' rate chans depth h :=
  ⟨(hb.block _ (Array.getElem?_eq_some_iff.1 k.p).1).trans k.p, k.r.below hb, k.h.below hb, bnext k.b hb⟩
theorem Mk.set {w W : World} {rate chans depth : Int} {h : Hd} (k : Mk w W rate chans depth h) (i : Nat) (v : Value) (h' : Hd) (e : h.cells.setIfInBounds i v = h'.cells) : Mk w (W.setCell ⟨w.heap.size + 1 + 1 + 1, i, none⟩ v) rate chans depth h' :=
  ⟨row_other k.p (by omega) i v, row_other k.r (by omega) i v, k.h.set i v h' e, k.b.setCell (p := ⟨w.heap.size + 1 + 1 + 1, i, none⟩) (by show w.heap.size ≤ w.heap.size + 1 + 1 + 1; omega) v⟩
theorem Mk.p0 {w W : World} {rate chans depth : Int} {h : Hd} (k : Mk w W rate chans depth h) : W.cell? ⟨w.heap.size, 0, none⟩ = some (.int .i64 rate) := cell_of_row _ _ _ _ _ _ k.p
theorem Mk.p2 {w W : World} {rate chans depth : Int} {h : Hd} (k : Mk w W rate chans depth h) : W.cell? ⟨w.heap.size, 2, none⟩ = some (.int .i64 depth) := cell_of_row _ _ _ _ _ _ k.p
theorem Mk.fz {w W : World} {rate chans depth : Int} {h : Hd} (k : Mk w W rate chans depth h) (i : Nat) : W.frozen? ⟨w.heap.size + 1 + 1 + 1, i, none⟩ = false := frozen_of_row _ _ i _ _ k.h

theorem Hd.one (h : Hd) : h.cells.all (·.oneCell') = true := by
  simp [Hd.cells]
  exact ⟨rfl, rfl, rfl, rfl, rfl, rfl, rfl, rfl, rfl⟩
theorem idxL_ge (L : List Int) (x : Int) : -1 ≤ idxL L x := by unfold idxL; split <;> omega
theorem idxL_lt (L : List Int) (x : Int) : idxL L x < L.length ∨ idxL L x < 0 := by
  unfold idxL
  split
  · rename_i i h
    have := (List.findIdx?_eq_some_iff_getElem.1 h).1
    exact .inl (by omega)
  · exact .inr (by omega)
theorem dcOf_lt (d : Int) : dcOf d < 8 := by
  have h : depL.length = 8 := rfl
  have := idxL_lt depL d
  unfold dcOf; omega
theorem Mk.new {w W : World} {rate chans depth : Int} (hs : W.heap.size = w.heap.size + 1 + 1 + 1) (hp : W.heap[w.heap.size]? = some (.cells #[.int .i64 rate, .int .i64 chans, .int .i64 depth] 38 (0, 0))) (hr : HdAt W (w.heap.size + 1) Hd.zero) (hb : Below w.heap.size w W) (h : Hd) :
    Mk w (W.alloc (.cells h.cells 23)) rate chans depth h :=
  ⟨hrow_alloc hp _, hrow_alloc hr _, by rw [← hs]; exact heap_alloc_last W _, bal hb _⟩
theorem Make_bad (V : Bool) (n b m rate chans depth : Int) (hbad : badM b rate depth) (w : World) :
    Calls Tryd.prog 15 #[.bool V, .int .i64 n, .int .i64 b, .int .i64 m, .agg #[.int .i64 rate, .int .i64 chans, .int .i64 depth]] w fun e w' => e = .returned (.tuple #[Hd.zero.val, .int .i64 10]) ∧ Below w.heap.size w w' := by
  have HR : Hid (HdAt ((w.alloc (.cells #[.int .i64 rate, .int .i64 chans, .int .i64 depth] 38)).alloc (.cells Hd.zero.cells 23)) (w.heap.size + 1) Hd.zero) := by
    have h := heap_alloc_last (w.alloc (.cells #[.int .i64 rate, .int .i64 chans, .int .i64 depth] 38)) (.cells Hd.zero.cells 23)
    rw [World.size_alloc] at h
    exact h
  have Hb : Hid (Below w.heap.size w ((w.alloc (.cells #[.int .i64 rate, .int .i64 chans, .int .i64 depth] 38)).alloc (.cells Hd.zero.cells 23))) := bal (bal (Below.refl _ _) _) _
  by_cases h1 : b < 1
  · clear hbad
    go_enter Tryd.func15, Tryd.ntmps15
    go_wp2_with fail
    exact bodyPost_ret (results_row_tmp Tryd.results15 _ _ _ rfl rfl HR.out Tryd.underlying23 rfl (by kernel_rfl)) rfl ⟨rfl, Hb.out⟩
  by_cases h2 : b > 65535
  · clear hbad
    go_enter Tryd.func15, Tryd.ntmps15
    go_wp2_with fail
    exact bodyPost_ret (results_row_tmp Tryd.results15 _ _ _ rfl rfl HR.out Tryd.underlying23 rfl (by kernel_rfl)) rfl ⟨rfl, Hb.out⟩
  by_cases h3 : rate < 0
  · clear hbad
    go_enter Tryd.func15, Tryd.ntmps15
    go_wp2_with fail
    exact bodyPost_ret (results_row_tmp Tryd.results15 _ _ _ rfl rfl HR.out Tryd.underlying23 rfl (by kernel_rfl)) rfl ⟨rfl, Hb.out⟩
  by_cases h4 : rate > 1048575
  · clear hbad
    go_enter Tryd.func15, Tryd.ntmps15
    go_wp2_with fail
    exact bodyPost_ret (results_row_tmp Tryd.results15 _ _ _ rfl rfl HR.out Tryd.underlying23 rfl (by kernel_rfl)) rfl ⟨rfl, Hb.out⟩
  by_cases h5 : depth < 4
  · clear hbad
    go_enter Tryd.func15, Tryd.ntmps15
    go_wp2_with fail
    exact bodyPost_ret (results_row_tmp Tryd.results15 _ _ _ rfl rfl HR.out Tryd.underlying23 rfl (by kernel_rfl)) rfl ⟨rfl, Hb.out⟩
  by_cases h6 : depth > 32
  · clear hbad
    go_enter Tryd.func15, Tryd.ntmps15
    go_wp2_with fail
    exact bodyPost_ret (results_row_tmp Tryd.results15 _ _ _ rfl rfl HR.out Tryd.underlying23 rfl (by kernel_rfl)) rfl ⟨rfl, Hb.out⟩
  exact absurd hbad (by unfold badM; omega)
end Go.Proofs.YtgohfbfdhdepnaaDoor
