/-
  predict.back: an iterator over a slice, the last one first; told: what is told of the sample behind others.
-/
import Derived.Test.YtghnjgemjiekgaaDoorRows
import Derived.Test.YtghnjgemjiekgaaDoorL
import Derived.RangeFuncNested
import Derived.RangeFuncBound
import Derived.RangeFuncCalls
import Derived.RangeFuncLeaves
import Derived.RangeFuncBox
import Derived.Shelf.Abstract
import Derived.Shelf.RegionOpen
import Derived.WalkKit
import Derived.OwnWalkIn
import Derived.TacticsInMore
import Derived.LoopNIn
import Derived.LoopIn
import Derived.KernelRfl
namespace Go.Proofs.YtghnjgemjiekgaaDoor
open Go.RowKit Go.Shelf

attribute [local go_sem] Oper.semAt_some

def upto {α : Type} (f : Nat → α) (k : Nat) : List α := (List.range k).map f
theorem upto_succ {α : Type} (f : Nat → α) (k : Nat) : upto f (k + 1) = upto f k ++ [f k] := by simp [upto, List.range_succ]
theorem upto_length {α : Type} (f : Nat → α) (k : Nat) : (upto f k).length = k := by simp [upto]

/-- An index below m, and a sample that may be. -/
abbrev IX (m : Nat) := { x : Nat × Int // x.1 < m ∧ -4294967296 ≤ x.2 ∧ x.2 < 4294967296 }
def okS (ls : List Int) : Prop := ∀ x ∈ ls, -4294967296 ≤ x ∧ x < 4294967296
theorem okS_get {ls : List Int} (h : okS ls) (j : Nat) : -4294967296 ≤ ls.getD j 0 ∧ ls.getD j 0 < 4294967296 := by
  rw [List.getD_eq_getElem?_getD]
  cases e : ls[j]? with
  | none => simp
  | some x => exact h x (List.mem_of_getElem? e)
def bkF (ls : List Int) (hs : okS ls) (hm : 0 < ls.length) (k : Nat) : IX ls.length :=
  if h : k < ls.length then ⟨(k, ls.getD (ls.length - 1 - k) 0), h, okS_get hs _⟩ else ⟨(0, 0), hm, by omega, by omega⟩
theorem bkF_val (ls : List Int) (hs : okS ls) (hm : 0 < ls.length) (k : Nat) (h : k < ls.length) : (bkF ls hs hm k).1 = (k, ls.getD (ls.length - 1 - k) 0) := by
  unfold bkF; rw [dif_pos h]
def encB {m : Nat} (x : IX m) : Array Value := #[Value.int .i64 (x.1.1 : Int), Value.int .i64 x.1.2]

/-- What a round that goes on keeps: what lay below n₀, and the cell Bs. -/
def KpB (n₀ Bs : Nat) (W W' : World) : Prop := Below n₀ W W' ∧ W'.cell? ⟨Bs, 0, none⟩ = W.cell? ⟨Bs, 0, none⟩
theorem KpB.t {n₀ Bs : Nat} {A B C : World} (h : KpB n₀ Bs A B) (k : KpB n₀ Bs B C) : KpB n₀ Bs A C := ⟨h.1.trans k.1, k.2.trans h.2⟩
theorem KpB.b {n₀ Bs : Nat} {w : World} (hn : n₀ ≤ w.heap.size) (hB : Bs < w.heap.size) (W : World) (l : Nat) (o o' : Obj) (hl : w.heap.size ≤ l) (h : W.heap[l]? = some o) (h1 : o.isCells = false) (h2 : o.isWalk = false) : KpB n₀ Bs W (W.putObj l o') :=
  ⟨belowK_b (w := w) hn W l o o' hl h h1 h2, World.cell?_of_block (World.putObj_heap_other (by intro e; simp at e; omega))⟩
set_option maxRecDepth 100000 in
set_option maxHeartbeats 2000000 in
theorem back1_in (F : Fence) (n : Nat) (h8 : F.fn 31) (hro : F.round = none) (hn : 1 ≤ n) (l Bs n₀ b off cap : Nat) (ls : List Int) (hs : okS ls) (hm : 0 < ls.length) (hreach : ls.length ≤ 1000000) (hb : b < n₀) (J Jx : List (IX ls.length) → World → Prop)
    (hY : ∀ pre x W, J pre W → pre.length < ls.length → YieldAt F (n - 1) Tryd.prog l (encB x) W fun e W' =>
      (e = .returned (.bool true) ∧ J (pre ++ [x]) W' ∧ KpB n₀ Bs W W') ∨ (e = .returned (.bool false) ∧ Jx (pre ++ [x]) W'))
    (W : World) (hBs : W.cell? ⟨Bs, 0, none⟩ = some (.slice (some ⟨b, off, none⟩) ls.length cap)) (hc : ∀ j, j < ls.length → W.cell? ⟨b, off + j, none⟩ = some (.int .i64 (ls.getD j 0))) (h0 : J [] W) :
    CallsIn F n Tryd.prog 31 #[.func (.yield l) #[] #[], .pointer (some ⟨Bs, 0, none⟩)] W fun e W' => (∃ v, e = .returned v) ∧
      ((∃ ys, ys = upto (bkF ls hs hm) ls.length ∧ J ys W') ∨ (∃ pre, (∃ k, k ≤ ls.length ∧ pre = upto (bkF ls hs hm) k) ∧ Jx pre W')) := by
  refine callsIn_of_wp Tryd.func31 rfl h8 ?_ hro
  simp only [Tryd.ntmps31, List.size_toArray, List.length_cons, List.length_nil, Nat.reduceAdd, Nat.reduceSub, Array.replicate_succ, Array.replicate_zero, List.push_toArray, List.append_toArray, List.nil_append, List.cons_append]
  have hBc := hBs
  gi_wp2
  gi_loopw [6] (fun i wr => ∃ k : Nat, k ≤ ls.length ∧ i = .int .i64 k ∧ J (upto (bkF ls hs hm) k) wr ∧ KpB n₀ Bs W wr)
    (fun i _ => ls.length - (intOf i).toNat)
  case atStart => exact ⟨0, Nat.zero_le _, rfl, h0, Below.refl _ _, rfl⟩
  case round =>
    obtain ⟨k, hk, rfl, hJs, hnx⟩ := hrel
    have hBr : wr.cell? ⟨Bs, 0, none⟩ = some (.slice (some ⟨b, off, none⟩) ls.length cap) := hnx.2.trans hBs
    by_cases hlt : k < ls.length
    · have hcx' : wr.cell? ⟨b, off + (ls.length - 1 - k), none⟩ = some (.int .i64 (ls.getD (ls.length - 1 - k) 0)) := (hnx.1.cell (p := ⟨b, off + (ls.length - 1 - k), none⟩) hb).trans (hc _ (by omega))
      obtain ⟨fn, tmps, assign, body, hy, hR⟩ := hY _ (bkF ls hs hm k) wr hJs (by rw [upto_length]; exact hlt)
      unfold encB at hy
      rw [bkF_val ls hs hm k hlt] at hy
      dsimp only at hy
      generalize ls.getD (ls.length - 1 - k) 0 = x at *
      clear hBc hc hBs
      gi_wp2
      refine hR.mono ?_
      rintro e W3 (⟨rfl, hJ3, hk3⟩ | ⟨rfl, hJx3⟩)
      · gi_wp2
        go_roundw
        case rel => exact ⟨k + 1, by omega, by simp, by rw [upto_succ]; exact hJ3, hnx.t hk3⟩
        case measure => simp [intOf]; omega
      · gi_wp2
        refine bodyPost_ret (results_none rfl _ _ _) rfl ?_
        exact ⟨⟨_, rfl⟩, .inr ⟨_, ⟨k + 1, by omega, (upto_succ _ _).symm⟩, hJx3⟩⟩
    · obtain rfl : k = ls.length := by omega
      gi_wp2
      go_end0
      exact ⟨⟨_, rfl⟩, .inl ⟨_, rfl, hJs⟩⟩

set_option maxRecDepth 100000 in
set_option maxHeartbeats 1000000 in
theorem back1_nil_in (F : Fence) (n : Nat) (h8 : F.fn 31) (hro : F.round = none) (l Bs : Nat) (A : Option Addr) (cap : Nat) (J : List (IX 0) → World → Prop) (W : World) (hBs : W.cell? ⟨Bs, 0, none⟩ = some (.slice A 0 cap)) (h0 : J [] W) :
    CallsIn F n Tryd.prog 31 #[.func (.yield l) #[] #[], .pointer (some ⟨Bs, 0, none⟩)] W fun e W' => (∃ v, e = .returned v) ∧ J [] W' := by
  refine callsIn_of_wp Tryd.func31 rfl h8 ?_ hro
  simp only [Tryd.ntmps31, List.size_toArray, List.length_cons, List.length_nil, Nat.reduceAdd, Nat.reduceSub, Array.replicate_succ, Array.replicate_zero, List.push_toArray, List.append_toArray, List.nil_append, List.cons_append]
  gi_wp2
  gi_loopw [6] (fun i wr => i = .int .i64 0 ∧ J [] wr) (fun _ _ => 0)
  case atStart => exact ⟨rfl, h0⟩
  case round =>
    obtain ⟨rfl, hJs⟩ := hrel
    gi_wp2
    go_end0
    exact ⟨⟨_, rfl⟩, hJs⟩

set_option maxHeartbeats 1000000 in
theorem back_in (F : Fence) (n : Nat) (h5 : F.fn 29) (hro : F.round = none) (a : Option Addr) (len cap : Nat) (w : World) :
    CallsIn F n Tryd.prog 29 #[.slice a len cap] w fun e w' => e = .returned (.func (.func 31) #[] #[.pointer (some ⟨w.heap.size, 0, none⟩)]) ∧ w' = w.alloc (.cells #[.slice a len cap] 22) := by
  refine callsIn_of_wp Tryd.func29 rfl h5 ?_ hro
  simp only [Tryd.ntmps29, List.size_toArray, List.length_cons, List.length_nil, Nat.reduceAdd, Nat.reduceSub, Array.replicate_succ, Array.replicate_zero, List.push_toArray, List.append_toArray, List.nil_append, List.cons_append]
  gi_wp2
  go_ret
  exact ⟨rfl, rfl⟩

theorem back_stops (F : Fence) (n : Nat) (h8 : F.fn 31) (hro : F.round = none) (hn : 1 ≤ n) (Bs n₀ b off cap : Nat) (ls : List Int) (hs : okS ls) (hm : 0 < ls.length) (hreach : ls.length ≤ 1000000) (w : World) (hb : b < n₀) (hBs : Bs < w.heap.size) (hn₀ : n₀ ≤ w.heap.size)
    (hc : w.cell? ⟨Bs, 0, none⟩ = some (.slice (some ⟨b, off, none⟩) ls.length cap)) (hI : ∀ j, j < ls.length → w.cell? ⟨b, off + j, none⟩ = some (.int .i64 (ls.getD j 0))) :
    SeqStopsK F n Tryd.prog 31 #[.pointer (some ⟨Bs, 0, none⟩)] (encB (m := ls.length)) (KpB n₀ Bs) (fun ys => ys = upto (bkF ls hs hm) ls.length)
      (fun pre => ∃ k, k ≤ ls.length ∧ pre = upto (bkF ls hs hm) k) ls.length w := fun l J Jx W hW _ _ hY h0 => by
  have hc' := (hW.cell (p := ⟨Bs, 0, none⟩) hBs).trans hc
  exact back1_in F n h8 hro hn l Bs n₀ b off cap ls hs hm hreach hb J Jx hY W hc' (fun j hj => (hW.cell (p := ⟨b, off + j, none⟩) (by show b < _; omega)).trans (hI j hj)) h0
theorem back_stops0 (F : Fence) (n : Nat) (h8 : F.fn 31) (hro : F.round = none) (Bs n₀ : Nat) (A : Option Addr) (cap : Nat) (w : World) (hBs : Bs < w.heap.size)
    (hc : w.cell? ⟨Bs, 0, none⟩ = some (.slice A 0 cap)) :
    SeqStopsK F n Tryd.prog 31 #[.pointer (some ⟨Bs, 0, none⟩)] (encB (m := 0)) (KpB n₀ Bs) (fun ys => ys = []) (fun _ => False) 0 w := fun l J Jx W hW _ _ hY h0 => by
  have hc' := (hW.cell (p := ⟨Bs, 0, none⟩) hBs).trans hc
  exact (back1_nil_in F n h8 hro l Bs A cap J W hc' h0).mono fun e W' ⟨he, hj⟩ => ⟨he, .inl ⟨_, rfl, hj⟩⟩

/-- The sum of the first k products. -/
def dotN (cs ls : List Int) : Nat → Int
  | 0 => 0
  | k + 1 => dotN cs ls k + cs.getD k 0 * ls.getD (ls.length - 1 - k) 0
def dotP (cs : List Int) {m : Nat} : List (IX m) → Int := List.foldl (fun s x => s + cs.getD x.1.1 0 * x.1.2) 0
theorem dotP_snoc (cs : List Int) {m : Nat} (pre : List (IX m)) (x : IX m) : dotP cs (pre ++ [x]) = dotP cs pre + cs.getD x.1.1 0 * x.1.2 := by simp [dotP]
theorem dotP_upto (cs ls : List Int) (hs : okS ls) (hm : 0 < ls.length) : ∀ k, k ≤ ls.length → dotP cs (upto (bkF ls hs hm) k) = dotN cs ls k
  | 0, _ => rfl
  | k + 1, h => by
    rw [upto_succ, dotP_snoc, dotP_upto cs ls hs hm k (by omega), bkF_val ls hs hm k (by omega), dotN]
theorem mul_bd (a b : Int) (ha : -16384 ≤ a ∧ a ≤ 16384) (hb : -4294967296 ≤ b ∧ b < 4294967296) : -70368744177664 ≤ a * b ∧ a * b ≤ 70368744177664 := by
  have h1 : (a * b).natAbs ≤ 16384 * 4294967296 := by
    rw [Int.natAbs_mul]
    exact Nat.mul_le_mul (by omega) (by omega)
  omega
theorem dotP_bd (cs : List Int) (hcs : ∀ c ∈ cs, -16384 ≤ c ∧ c ≤ 16384) {m : Nat} (pre : List (IX m)) : -(70368744177664 * pre.length) ≤ dotP cs pre ∧ dotP cs pre ≤ 70368744177664 * pre.length := by
  have key : ∀ (l : List (IX m)) (s : Int), s - 70368744177664 * l.length ≤ l.foldl (fun s x => s + cs.getD x.1.1 0 * x.1.2) s ∧ l.foldl (fun s x => s + cs.getD x.1.1 0 * x.1.2) s ≤ s + 70368744177664 * l.length := by
    intro l
    induction l with
    | nil => intro s; simp
    | cons x l ih =>
      intro s
      have h1 := ih (s + cs.getD x.1.1 0 * x.1.2)
      have hc : -16384 ≤ cs.getD x.1.1 0 ∧ cs.getD x.1.1 0 ≤ 16384 := by
        rw [List.getD_eq_getElem?_getD]
        cases e : cs[x.1.1]? with
        | none => simp
        | some c => exact hcs c (List.mem_of_getElem? e)
      have h2 := mul_bd _ _ hc x.2.2
      simp only [List.foldl_cons, List.length_cons] at h1 ⊢
      omega
  have := key pre 0
  unfold dotP
  omega
end Go.Proofs.YtghnjgemjiekgaaDoor
