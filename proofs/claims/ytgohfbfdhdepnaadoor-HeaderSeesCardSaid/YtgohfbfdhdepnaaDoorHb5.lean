/-
  A region that draws its order: a head of operations that yield in every world that meets S (still calls too) taken first, the rest (an alloc, a great store) by hand.
  Steps of the head of a drawn region.
  header's reader: take, wrong.
  header.Make: its walk.
  header's reader: head.
  coded.Put: a number's code.
-/
import Derived.Test.YtgohfbfdhdepnaaDoorHb1
import Derived.Deep.WholeRow
import Derived.Deep.RegionHeld3
import Derived.StillTail
import Derived.Laws.CopyOwn
import Derived.Test.YtgohfbfdhdepnaaDoorHb4
import Derived.StillTailTactics
import Derived.Deep.DeepCutAuto
import Derived.Test.YtgohfbfdhdepnaaDoorHb3
set_option linter.unusedSimpArgs false
set_option linter.unusedVariables false
namespace Go
open Go.RowKit
section
variable {P : Program} {ops : Array Oper} {Q : Exit → Act → World → Prop} {md : Region.Mode} {S : World → Prop}

/-- In every world that meets S the operation leaves v in its temporary and does nothing else: a call that returns v and leaves the world alone too. -/
def YieldsS (P : Program) (ops : Array Oper) (S : World → Prop) (o : Oper) (v : Value) (a : Act) : Prop :=
  (Region.wanted o (yielded ops a.tmps) = true ∧ ∀ w, S w → ((execOp a.eval o).run P w = .ok (.value v) w ∨
    ∃ f args, (execOp a.eval o).run P w = .ok (.enter f args) w ∧ Calls P f args w (fun e w'' => e = .returned v ∧ w'' = w))) ∨
  (Region.wanted o (yielded ops a.tmps) = false ∧ v = undef)
theorem YieldsS.wpOp {i : Nat} {o : Oper} {v : Value} {a : Act} (hi : ops[i]? = some o) (hy : YieldsS P ops S o v a)
    {K : Act → World → Prop} {w : World} (hS : S w) (h : K (a.put o.dst v) w) : wpOp P ops Q i K a w := by
  unfold Go.wpOp
  simp only [hi]
  rcases hy with ⟨hw, hv⟩ | ⟨hw, rfl⟩
  · rcases hv w hS with hv | ⟨f, args, hv, hc⟩
    · simp only [hw, if_true, Oper.wp, hv, Oper.upon]; exact .inl h
    · simp only [hw, if_true, Oper.wp, hv, Oper.upon]
      exact .inl (hc.mono fun e w'' ⟨he, hw⟩ => by subst he; subst hw; exact h)
  · simp only [hw, Bool.false_eq_true, if_false]; exact h
theorem YieldsS.of_same {o : Oper} {v : Value} {a a' : Act} (hy : YieldsS P ops S o v a) (he : execOp a'.eval o = execOp a.eval o)
    (hw : Region.wanted o (yielded ops a'.tmps) = Region.wanted o (yielded ops a.tmps)) : YieldsS P ops S o v a' := by
  unfold YieldsS at *
  rw [he, hw]
  exact hy
theorem wpOp_putS {j : Nat} {oi oj : Oper} {v : Value} (hj : ops[j]? = some oj) (hap : oi.apart ops oj = true)
    (hsi : ∀ cs b, oi.op ≠ .select cs b) (hsj : ∀ cs b, oj.op ≠ .select cs b)
    (hQ : ∀ c a w, Q (.panic c) (a.put oi.dst v) w → Q (.panic c) a w) {K : Act → World → Prop} {a : Act} {w : World}
    (hy : YieldsS P ops S oi v a) (h : wpOp P ops Q j K (a.put oi.dst v) w) :
    wpOp P ops Q j (fun a' w' => YieldsS P ops S oi v a' ∧ K (a'.put oi.dst v) w') a w := by
  obtain ⟨h1, h2, h3⟩ := Oper.apart_spec hap
  have keep : ∀ (a : Act), YieldsS P ops S oi v a → ∀ u, YieldsS P ops S oi v (a.put oj.dst u) := fun a hy u =>
    hy.of_same (execOp_put oi hsi a oj.dst u h3) (wanted_put oi a oj.dst u h3)
  have keepD : ∀ d, YieldsS P ops S oi v { a with defers := d :: a.defers } := fun d => hy.of_same rfl rfl
  unfold wpOp at *
  simp only [hj] at *
  rw [wanted_put oj a oi.dst v h1] at h
  split
  · rename_i hw
    simp only [hw, if_true] at h
    rcases h with h | ⟨hasks, hlets⟩
    case inr => exact .inr ⟨by unfold Oper.asks at *; rw [execOp_put oj hsj a oi.dst v h1] at hasks; exact hasks, hlets⟩
    refine .inl ?_
    unfold Oper.wp at *
    rw [execOp_put oj hsj a oi.dst v h1] at h
    generalize (execOp a.eval oj).run P w = r at *
    cases r with
    | ok n w' =>
      cases n <;> simp only [Oper.upon] at h ⊢
      case value u => exact ⟨keep a hy u, by rw [← Act.put_comm a v u h2]; exact h⟩
      case skip => exact ⟨keep a hy _, by rw [← Act.put_comm a v undef h2]; exact h⟩
      case defer d =>
        refine ⟨keep _ (keepD d) _, ?_⟩
        rw [← Act.put_comm _ v undef h2, ← Act.put_defers]
        exact h
      case enter f args =>
        refine Calls.mono h fun e w'' he => ?_
        cases e with
        | returned u => exact ⟨keep a hy u, by rw [← Act.put_comm a v u h2]; exact he⟩
        | panicked c => exact hQ _ _ _ he
        | outgrown => exact he
      case row row args => exact Rows.mono h fun u w'' he => ⟨keep a hy u, by rw [← Act.put_comm a v u h2]; exact he⟩
    | halt x w' =>
      cases x <;> simp only [Oper.upon] at h ⊢
      case panic u => exact hQ _ _ _ h
  · rename_i hw
    simp only [hw] at h
    exact ⟨keep a hy _, by rw [← Act.put_comm a v undef h2]; exact h⟩
theorem wpAnyH_firstS {i : Nat} {oi : Oper} {v : Value} (hi : ops[i]? = some oi) (hsel : ∀ (j : Nat) (o : Oper) cs b, ops[j]? = some o → o.op ≠ .select cs b)
    (hQ : ∀ c a w, Q (.panic c) (a.put oi.dst v) w → Q (.panic c) a w) :
    ∀ (fuel : Nat) (listed : Array Bool) (a : Act) (w : World),
      (∀ j oj, ops[j]? = some oj → j ≠ i → listed.getD j true = false → (∀ e ∈ oj.after, Region.binds md e = true → e.on ≠ i) → oi.apart ops oj = true) →
      i ∈ Region.ready md ops listed → YieldsS P ops S oi v a → S w →
      wpAnyH P md ops Q S fuel (listed.setIfInBounds i true) (a.put oi.dst v) w → wpAnyH P md ops Q S (fuel + 1) listed a w := by
  intro fuel
  induction fuel with
  | zero =>
    intro listed a w _ hr hy hS H
    refine ⟨fun h => (by rw [h] at hr; cases hr), fun j hj => ?_⟩
    by_cases hji : j = i
    · subst hji; exact hy.wpOp hi hS ⟨hS, H⟩
    · have := ready_mono hj hji
      rw [H.1] at this
      cases this
  | succ fuel ih =>
    intro listed a w hfree hr hy hS H
    refine ⟨fun h => (by rw [h] at hr; cases hr), fun j hj => ?_⟩
    by_cases hji : j = i
    · subst hji; exact hy.wpOp hi hS ⟨hS, H⟩
    · have h1 := H.2 j (ready_mono hj hji)
      obtain ⟨hjun, oj, hoj, hall⟩ := mem_ready.1 hj
      have hnot : ∀ e ∈ oj.after, Region.binds md e = true → e.on ≠ i := fun e he hb heq => by
        have h1 := hall e he hb
        have h0 := (mem_ready.1 hr).1
        rw [heq] at h1
        rcases Nat.lt_or_ge i listed.size with h' | h'
        · simp [h'] at h0 h1; rw [h0] at h1; cases h1
        · simp [Array.getElem?_eq_none h'] at h1
      have h2 := wpOp_putS hoj (hfree j oj hoj hji hjun hnot) (fun cs b => hsel i oi cs b hi) (fun cs b => hsel j oj cs b hoj) hQ hy h1
      have hfree' : ∀ k ok, ops[k]? = some ok → k ≠ i → (listed.setIfInBounds j true).getD k true = false →
          (∀ e ∈ ok.after, Region.binds md e = true → e.on ≠ i) → oi.apart ops ok = true := fun k ok hk hki hun hno => by
        refine hfree k ok hk hki ?_ hno
        by_cases hjk : j = k
        · subst hjk; exact hjun
        · rw [getD_set_ne true hjk] at hun; exact hun
      refine wpOp_mono (fun a' w' h3 => ⟨h3.2.1, ih (listed.setIfInBounds j true) a' w' hfree' (ready_mono hr (Ne.symm hji)) h3.1 h3.2.1 ?_⟩) h2
      rw [Array.setIfInBounds_comm _ _ hji]
      exact h3.2.2

/-- The operations of the head, one by one, each with what it yields. -/
def wpHead (P : Program) (ops : Array Oper) (S : World → Prop) (L : Act → Prop) : List Oper → Act → Prop
  | [], a => L a
  | o :: l, a => ∃ v, YieldsS P ops S o v a ∧ wpHead P ops S L l (a.put o.dst v)
theorem wpHead_nil {L : Act → Prop} {a : Act} (h : L a) : wpHead P ops S L [] a := h
theorem wpHead_op {L : Act → Prop} {a : Act} {o : Oper} {l : List Oper} (v : Value) (hw : Region.wanted o (yielded ops a.tmps) = true) (hv : ∀ w, S w → (execOp a.eval o).run P w = .ok (.value v) w)
    (h : wpHead P ops S L l (a.put o.dst v)) : wpHead P ops S L (o :: l) a := ⟨v, .inl ⟨hw, fun w hS => .inl (hv w hS)⟩, h⟩
theorem wpHead_call {L : Act → Prop} {a : Act} {o : Oper} {l : List Oper} (v : Value) (f : FuncId) (args : Array Value) (hw : Region.wanted o (yielded ops a.tmps) = true) (hv : ∀ w, (execOp a.eval o).run P w = .ok (.enter f args) w)
    (hc : ∀ w, S w → Calls P f args w (fun e w'' => e = .returned v ∧ w'' = w))
    (h : wpHead P ops S L l (a.put o.dst v)) : wpHead P ops S L (o :: l) a := ⟨v, .inl ⟨hw, fun w hS => .inr ⟨f, args, hv w, hc w hS⟩⟩, h⟩
def Region.setFrom : Nat → Nat → Array Bool → Array Bool
  | 0, _, l => l
  | n + 1, k, l => Region.setFrom n (k + 1) (l.setIfInBounds k true)
def Region.lexH (md : Region.Mode) (ops : Array Oper) : Nat → Nat → Array Bool → Bool
  | 0, _, _ => true
  | f + 1, k, listed => (Region.ready md ops listed).contains k && Region.free md ops listed k && Region.lexH md ops f (k + 1) (listed.setIfInBounds k true)
theorem wpAnyH_head {g : Nat} (hsel : Region.noSelect ops = true) (hQ : ∀ c a d v w, Q (.panic c) (a.put d v) w → Q (.panic c) a w) : ∀ (l : List Oper) (k : Nat) (listed : Array Bool) (a : Act) (w : World), (∀ j, j < l.length → l[j]? = ops[k + j]?) →
    Region.lexH md ops l.length k listed = true → S w → wpHead P ops S (fun a' => wpAnyH P md ops Q S g (Region.setFrom l.length k listed) a' w) l a → wpAnyH P md ops Q S (g + l.length) listed a w
  | [], _, _, _, _, _, _, _, h => h
  | o :: l, k, listed, a, w, hl, hB, hS, h => by
    have h0 : ops[k]? = some o := by simpa using (hl 0 (by simp)).symm
    simp only [List.length_cons, Region.lexH, Bool.and_eq_true] at hB
    obtain ⟨⟨hr, hf⟩, hB'⟩ := hB
    obtain ⟨v, hy, hK⟩ := h
    exact wpAnyH_firstS h0 (Region.noSelect_spec hsel) (fun c a w => hQ c a _ _ w) (g + l.length) listed a w (Region.free_spec h0 hf) (by simpa using hr) hy hS
      (wpAnyH_head hsel hQ l (k + 1) _ _ w (fun j hj => by have := hl (j + 1) (by simp; omega); simpa [Nat.add_assoc, Nat.add_comm 1 j] using this) hB' hS hK)
/-- The beginning: n operations of the head, g of the rest. -/
theorem wp_region_head {id : Nat} {a : Act} {w : World} {l : List Oper} (S : World → Prop) (n g : Nat) (hm : P.follows .mixedOrders = true) (hng : l.length = g + n) (hB : (Region.noSelect l.toArray && Region.lexH .any l.toArray n 0 (Array.replicate l.length false)) = true)
    (hQ : ∀ c a d v w, Q (.panic c) (a.put d v) w → Q (.panic c) a w) (hS : S w.drew)
    (h : wpHead P l.toArray S (fun a' => wpAnyH P .any l.toArray Q S g (Region.setFrom n 0 (Array.replicate l.length false)) a' w.drew) (l.take n) a) : (Code.region id l.toArray true).wp P Q a w := by
  simp only [Bool.and_eq_true] at hB
  have ht : (l.take n).length = n := by simp; omega
  refine wp_region_held (S := S) hm ?_
  have := wpAnyH_head (md := .any) (g := g) (S := S) hB.1 hQ (l.take n) 0 (Array.replicate l.length false) a w.drew (fun j hj => by
    have hj' : j < n := by rw [ht] at hj; exact hj
    simp [hj']) (by rw [ht]; exact hB.2) hS (by rw [ht]; exact h)
  rw [ht, ← hng] at this
  exact this
/-- The one operation that may come up. -/
theorem wpAnyH_one {i fuel : Nat} {listed : Array Bool} {a : Act} {w : World} {o : Oper} (hr : Region.ready md ops listed = [i]) (ho : ops[i]? = some o) (hw : Region.wanted o (yielded ops a.tmps) = true)
    (h : Oper.wp P o a w (fun a' w' => S w' ∧ wpAnyH P md ops Q S fuel (listed.setIfInBounds i true) a' w') Q) : wpAnyH P md ops Q S (fuel + 1) listed a w := by
  refine wpAnyH_all hr (by simp) fun j hj => ?_
  obtain rfl : j = i := by simpa using hj
  unfold wpOp
  simp only [ho, hw, if_true]
  exact .inl h
theorem wp_store_row' {w : World} {o : Oper} {a : Act} {K : Act → World → Prop} {c c' : Array Value} {t : TypeId} (ty : TypeId) (x y : Operand) (ho : o.op = .store ty x y)
    (g : Nat) (hx : a.eval x = .pointer (some ⟨g, 0, none⟩)) (hy : a.eval y = .agg c') (hg : w.heap[g]? = some (.cells c t (0, 0))) (hi : (P.info? ty).map (·.size) = some c'.size) (hs : c.size = c'.size) (h1 : c'.all (·.oneCell') = true)
    (h : ∀ w', w.setRow g c' = w' → K (a.put o.dst undef) w') : Oper.wp P o a w K Q := by
  unfold Oper.wp execOp
  simp only [ho, hx, hy, Instr.storeAt, Instr.sureAddr, Sem.run_bind, Sem.run_pure, Result.andThen_ok, run_storeVar_row (P := P) _ _ t ty c c' hg hi hs h1]
  exact h _ rfl
end
end Go

namespace Go
open Go.RowKit
/-- The beginning, in a function that does not panic in this region. -/
theorem wp_region_headN {P : Program} {Q : Exit → Act → World → Prop} {id : Nat} {a : Act} {w : World} {l : List Oper} (S : World → Prop) (n g : Nat) (hm : P.follows .mixedOrders = true) (hng : l.length = g + n) (hB : (Region.noSelect l.toArray && Region.lexH .any l.toArray n 0 (Array.replicate l.length false)) = true)
    (hS : S w.drew) (h : wpHead P l.toArray S (fun a' => wpAnyH P .any l.toArray (NoPanic Q) S g (Region.setFrom n 0 (Array.replicate l.length false)) a' w.drew) (l.take n) a) : (Code.region id l.toArray true).wp P Q a w :=
  wp_region_noPanic (wp_region_head S n g hm hng hB (fun _ _ _ _ _ h => h) hS h)
theorem wpAnyH_doneN {P : Program} {ops : Array Oper} {Q : Exit → Act → World → Prop} {md : Region.Mode} {S : World → Prop} {listed : Array Bool} {a : Act} {w : World} {fuel : Nat} (hr : Region.ready md ops listed = []) (h : Q .normal a w) : wpAnyH P md ops (NoPanic Q) S fuel listed a w := wpAnyH_done hr (NoPanic.normal h) fuel
theorem of_step {c : Bool} {X E : Prop} (hc : c = true) (h : if c = true then X else E) : X := by rwa [if_pos hc] at h
/-- The one operation that may come up, written out. -/
theorem wpAnyH_next {P : Program} {l rest : List Oper} {Q : Exit → Act → World → Prop} {md : Region.Mode} {S : World → Prop} {i fuel : Nat} {listed : Array Bool} {a : Act} {w : World} {o : Oper} (hr : Region.ready md l.toArray listed = [i]) (ho : l.drop i = o :: rest) (hw : Region.wanted o (yielded l.toArray a.tmps) = true)
    (h : ∀ K : Act → World → Prop, Shut (∀ a w, S w → wpAnyH P md l.toArray Q S fuel (listed.setIfInBounds i true) a w → K a w) → Oper.wp P o a w K Q) : wpAnyH P md l.toArray Q S (fuel + 1) listed a w :=
  wpAnyH_one hr (by
    have : (l.drop i)[0]? = some o := by rw [ho]; rfl
    rw [List.getElem?_drop] at this
    simpa using this) hw (h _ fun a w hS hW => ⟨hS, hW⟩)
end Go

namespace Go.Proofs.YtgohfbfdhdepnaaDoor
open Go.RowKit

/-- A reader of header's: the block Q, its Reader in the block R, and the first error. -/
structure Rq (w0 W : World) (Q R t : Nat) (A : Option Addr) (l : List UInt8) (c : Nat) (e : Int) : Prop where
  q : W.heap[Q]? = some (.cells #[.pointer (some ⟨R, 0, none⟩), .int .i64 e] 77 (0, 0))
  rd : Rdr W R t A l c
  b : Below w0.heap.size w0 W
  leq : w0.heap.size ≤ Q
  ler : w0.heap.size ≤ R
  ne : Q ≠ R
def FQ (Q R k : Nat) : Prop := k = Q ∨ k = R
theorem Rq.apart {w0 W : World} {Q R t : Nat} {A : Option Addr} {l : List UInt8} {c : Nat} {e : Int} (h : Rq w0 W Q R t A l c e) : ∀ k o, A = some ⟨k, o, none⟩ → 0 < (bv l).length → ¬ k = Q := by
  rintro k o rfl hl rfl
  obtain ⟨k', o', e1, hc⟩ := h.rd.rd 0 (bv l)[0] (List.getElem?_eq_getElem hl)
  injection e1 with e1; injection e1 with e1 e2; subst e1 e2
  obtain ⟨x, hx⟩ := bv_cell (l := l) (List.getElem?_eq_getElem hl)
  rw [hx] at hc
  have hr2 := cell_of_row W k (o + 0) _ _ _ h.q
  rw [hr2] at hc
  match o, hc with
  | 0, hc => simp at hc
  | 1, hc => simp at hc
  | o + 2, hc => simp at hc
theorem Rq.c0 {w0 W : World} {Q R t : Nat} {A : Option Addr} {l : List UInt8} {c : Nat} {e : Int} (h : Rq w0 W Q R t A l c e) : W.cell? ⟨Q, 0, none⟩ = some (.pointer (some ⟨R, 0, none⟩)) := cell_of_row _ _ _ _ _ _ h.q
theorem Rq.c1 {w0 W : World} {Q R t : Nat} {A : Option Addr} {l : List UInt8} {c : Nat} {e : Int} (h : Rq w0 W Q R t A l c e) : W.cell? ⟨Q, 1, none⟩ = some (.int .i64 e) := cell_of_row _ _ _ _ _ _ h.q
theorem Rq.fz {w0 W : World} {Q R t : Nat} {A : Option Addr} {l : List UInt8} {c : Nat} {e : Int} (h : Rq w0 W Q R t A l c e) : W.frozen? ⟨Q, 1, none⟩ = false := frozen_of_row _ _ 1 _ _ h.q
theorem Rq.below {w0 W W' : World} {Q R t : Nat} {A : Option Addr} {l : List UInt8} {c : Nat} {e : Int} (h : Rq w0 W Q R t A l c e) (hb : Below W.heap.size W W') : Rq w0 W' Q R t A l c e :=
  ⟨(hb.block _ (Array.getElem?_eq_some_iff.1 h.q).1).trans h.q, h.rd.below hb, bnext h.b hb, h.leq, h.ler, h.ne⟩
/-- The error is stored. -/
theorem Rq.put {w0 W : World} {Q R t : Nat} {A : Option Addr} {l : List UInt8} {c : Nat} {e : Int} (h : Rq w0 W Q R t A l c e) (e' : Int) : Rq w0 (W.setCell ⟨Q, 1, none⟩ (.int .i64 e')) Q R t A l c e' := by
  have f : Fr (· = Q) W (W.setCell ⟨Q, 1, none⟩ (.int .i64 e')) := (Fr.refl _ W).put 1 _
  exact ⟨heap_setCell_same W Q 1 _ _ _ h.q, h.rd.keep f (fun k => h.ne k.symm) h.apart, h.b.setCell (p := ⟨Q, 1, none⟩) h.leq _, h.leq, h.ler, h.ne⟩
/-- The Reader is moved. -/
theorem Rq.moved {w0 W W' : World} {Q R t t' : Nat} {A : Option Addr} {l : List UInt8} {c : Nat} {e : Int} (h : Rq w0 W Q R t A l c e) (f : Fr (· = R) W W') (hr : Rdr W' R t' A l c) : Rq w0 W' Q R t' A l c e :=
  ⟨f.row h.q h.ne, hr, f.below h.b (fun k hk => by subst hk; exact h.ler), h.leq, h.ler, h.ne⟩

def tqV (l : List UInt8) (t : Nat) (e n : Int) : Nat := if e = 0 then tkV l t n else 0
def tqT (l : List UInt8) (t : Nat) (e n : Int) : Nat := if e = 0 then tkT l t n else t
def tqE (l : List UInt8) (t : Nat) (e n : Int) : Int := if e = 0 then tkE n (8 * l.length - t) else e
set_option maxHeartbeats 1000000 in
theorem take_any (Q R t : Nat) (A : Option Addr) (l : List UInt8) (c : Nat) (e n : Int) (w0 W : World) (H : Rq w0 W Q R t A l c e) :
    Calls Tryd.prog 48 #[.pointer (some ⟨Q, 0, none⟩), .int .i64 n] W fun x w' => x = .returned (.int .i64 (tqV l t e n : Nat)) ∧ Rq w0 w' Q R (tqT l t e n) A l c (tqE l t e n) ∧ Fr (FQ Q R) W w' := by
  have h0 := H.c0
  have h1 := H.c1
  have HH := Lib.hid H
  clear H
  by_cases he : e = 0
  · subst he
    have HT := Lib.hid (Take_any R t A l c n W HH.out.rd)
    have e1 : tqV l t 0 n = tkV l t n := if_pos rfl
    have e2 : tqT l t 0 n = tkT l t n := if_pos rfl
    have e3 : tqE l t 0 n = tkE n (8 * l.length - t) := if_pos rfl
    rw [e1, e2, e3]
    clear e1 e2 e3
    generalize tkV l t n = v at *
    generalize tkT l t n = t' at *
    generalize tkE n (8 * l.length - t) = e' at *
    go_enter Tryd.func48, Tryd.ntmps48
    go_wp2_with fail
    refine HT.out.mono ?_
    rintro x w1 ⟨rfl, hr1, f1⟩
    have HH1 := Lib.hid (HH.out.moved f1 hr1)
    have F1 := Lib.hid f1
    clear h0 h1 HT HH hr1 f1
    have h1 := HH1.out.c1
    have hz := HH1.out.fz
    go_wp2_with fail
    go_ret
    exact ⟨rfl, HH1.out.put e', (F1.out.wide (fun k hk => .inr hk)).setCell (p := ⟨Q, 1, none⟩) (.inl rfl) _⟩
  · have e1 : tqV l t e n = 0 := if_neg he
    have e2 : tqT l t e n = t := if_neg he
    have e3 : tqE l t e n = e := if_neg he
    rw [e1, e2, e3]
    have he' : (e != 0) = true := by rw [bne_iff_ne]; exact he
    clear e1 e2 e3
    go_enter Tryd.func48, Tryd.ntmps48
    go_wp2_with fail
    go_ret
    exact ⟨rfl, HH.out, Fr.refl _ _⟩
def wrE (e : Int) (b : Bool) (x : Int) : Int := fstE [e, if b then x else 0]
set_option maxRecDepth 100000 in
set_option maxHeartbeats 2000000 in
theorem wrongR_any (Q R t : Nat) (A : Option Addr) (l : List UInt8) (c : Nat) (e : Int) (b : Bool) (x : Int) (w0 W : World) (H : Rq w0 W Q R t A l c e) :
    Calls Tryd.prog 49 #[.pointer (some ⟨Q, 0, none⟩), .bool b, .int .i64 x] W fun z w' => (∃ q, z = .returned q) ∧ Rq w0 w' Q R t A l c (wrE e b x) ∧ Fr (FQ Q R) W w' := by
  have h1 := H.c1
  have HH := Lib.hid H
  have HWr : Hid (∀ W, Calls Tryd.prog 34 #[.bool b, .int .i64 x] W fun e w' => e = .returned (.int .i64 (if b then x else 0)) ∧ w' = W) := fun W => wrong_any b x W
  have HE : Hid (wrE e b x = fstE [e, if b then x else 0]) := rfl
  generalize wrE e b x = E at *
  generalize (if b then x else 0) = y at *
  have HFi : Hid (∀ (g : Nat) W, W.heap[g]? = some (.cells #[.int .i64 e, .int .i64 y] 24 (0, 0)) → Calls Tryd.prog 33 #[.slice (some ⟨g, 0, none⟩) 2 2] W fun z w' => z = .returned (.int .i64 E) ∧ w' = W) := fun g W hg => by rw [HE.out]; exact first_any [e, y] _ 2 W (rd_row hg _ rfl) (by show 2 ≤ 100; omega)
  have HQ : Hid (∀ W', Below W.heap.size W W' → W'.cell? ⟨Q, 1, none⟩ = some (.int .i64 e)) := fun W' hb => (HH.out.below hb).c1
  clear H HE
  go_enter Tryd.func49, Tryd.ntmps49
  go_wp2_with fail
  have HWd : Hid (Rq w0 (W.alloc (.cells #[.int .i64 e, .int .i64 y] 24)).drew Q R t A l c e) := HH.out.below ((bal (Below.refl _ _) _).drew)
  have HFd : Hid (Fr (FQ Q R) W (W.alloc (.cells #[.int .i64 e, .int .i64 y] 24)).drew) := Fr.of ((bal (Below.refl _ _) _).drew)
  have HFi2 : Hid (Calls Tryd.prog 33 #[.slice (some ⟨W.heap.size, 0, none⟩) 2 2] (W.alloc (.cells #[.int .i64 e, .int .i64 y] 24)).drew fun z w' => z = .returned (.int .i64 E) ∧ w' = (W.alloc (.cells #[.int .i64 e, .int .i64 y] 24)).drew) := HFi.out _ _ (heap_alloc_last W _)
  have hz := HWd.out.fz
  have hc := HWd.out.c1
  clear HQ HH HFi
  go_region_with (first | (go_at_call 34; refine (HWr.out _).mono ?_; rintro e wx ⟨rfl, rfl⟩) | (go_at_call 33; refine HFi2.out.mono ?_; rintro z w2 ⟨rfl, rfl⟩))
  all_goals (go_wp2_with fail; first | (refine bodyPost_end (v := .tuple #[]) (by simp [results, Tryd.results49, go_sem]) rfl ⟨⟨_, rfl⟩, HWd.out.put E, HFd.out.setCell (p := ⟨Q, 1, none⟩) (.inl rfl) _⟩) | skip)
  all_goals trace_state
  all_goals done
end Go.Proofs.YtgohfbfdhdepnaaDoor

namespace Go.Proofs.YtgohfbfdhdepnaaDoor
open Go.RowKit

def bcOf (b : Int) : Int := if idxL blkL b < 0 then 7 - (bitV (decide (b ≤ 256)) : Int) else idxL blkL b
def rcAt (r : Int) : Nat → Int
  | 0 => 0
  | k + 1 => if rFits (14 - k) r then 14 - k else rcAt r k
def rcOf (r : Int) : Int := if idxL ratL r < 0 then rcAt r 3 else idxL ratL r
def dcOf (d : Int) : Int := max 0 (idxL depL d)
def mkH (V : Bool) (n b m rate depth : Int) : Hd := ⟨V, bcOf b, rcOf rate, m, dcOf depth, n, b, if 0 < rcOf rate then rate else 0, depL.getD (dcOf depth).toNat 0⟩
def badM (b rate depth : Int) : Prop := b < 1 ∨ 65535 < b ∨ rate < 0 ∨ 1048575 < rate ∨ depth < 4 ∨ 32 < depth
instance (b rate depth : Int) : Decidable (badM b rate depth) := by unfold badM; infer_instance
def chanM (m chans : Int) : Int := fstE [chE m, if (chN m != chans) then (22 : Int) else 0]
def mkE (V : Bool) (n b m rate chans depth : Int) : Int := if badM b rate depth then 10 else if chanM m chans = 0 then chkE (mkH V n b m rate depth) else chanM m chans
def mkR (V : Bool) (n b m rate chans depth : Int) : Hd := if mkE V n b m rate chans depth = 0 then mkH V n b m rate depth else Hd.zero

theorem HdAt.set {w : World} {B : Nat} {h : Hd} (k : HdAt w B h) (i : Nat) (v : Value) (h' : Hd) (e : h.cells.setIfInBounds i v = h'.cells) : HdAt (w.setCell ⟨B, i, none⟩ v) B h' := by
  have := heap_setCell_same w B i _ _ v k
  rw [e] at this
  exact this
theorem row_other {w : World} {B g : Nat} {cs : Array Value} {t : TypeId} (k : w.heap[B]? = some (.cells cs t (0, 0))) (hne : B ≠ g) (i : Nat) (v : Value) : (w.setCell ⟨g, i, none⟩ v).heap[B]? = some (.cells cs t (0, 0)) :=
  ((Fr.refl (fun k => k = g) w).setCell (p := ⟨g, i, none⟩) rfl v).row k (fun e => hne e)
/-- Make, under way: the parameters, the result, the header. -/
structure Mk (w W : World) (rate chans depth : Int) (h : Hd) : Prop where
  p : W.heap[w.heap.size]? = some (.cells #[.int .i64 rate, .int .i64 chans, .int .i64 depth] 38 (0, 0))
  r : HdAt W (w.heap.size + 1) Hd.zero
  h : HdAt W (w.heap.size + 1 + 1 + 1) h
  b : Below w.heap.size w W
theorem Mk.below {w W W' : World} {rate chans depth : Int} {h : Hd} (k : Mk w W rate chans depth h) (hb : Below W.heap.size W W') : Mk w W' rate chans depth h :=
  ⟨(hb.block _ (Array.getElem?_eq_some_iff.1 k.p).1).trans k.p, k.r.below hb, k.h.below hb, bnext k.b hb⟩
theorem Mk.set {w W : World} {rate chans depth : Int} {h : Hd} (k : Mk w W rate chans depth h) (i : Nat) (v : Value) (h' : Hd) (e : h.cells.setIfInBounds i v = h'.cells) : Mk w (W.setCell ⟨w.heap.size + 1 + 1 + 1, i, none⟩ v) rate chans depth h' :=
  ⟨row_other k.p (by omega) i v, row_other k.r (by omega) i v, k.h.set i v h' e, k.b.setCell (p := ⟨w.heap.size + 1 + 1 + 1, i, none⟩) (by show w.heap.size ≤ w.heap.size + 1 + 1 + 1; omega) v⟩
theorem Mk.p0 {w W : World} {rate chans depth : Int} {h : Hd} (k : Mk w W rate chans depth h) : W.cell? ⟨w.heap.size, 0, none⟩ = some (.int .i64 rate) := cell_of_row _ _ _ _ _ _ k.p
theorem Mk.p2 {w W : World} {rate chans depth : Int} {h : Hd} (k : Mk w W rate chans depth h) : W.cell? ⟨w.heap.size, 2, none⟩ = some (.int .i64 depth) := cell_of_row _ _ _ _ _ _ k.p
theorem Mk.fz {w W : World} {rate chans depth : Int} {h : Hd} (k : Mk w W rate chans depth h) (i : Nat) : W.frozen? ⟨w.heap.size + 1 + 1 + 1, i, none⟩ = false := frozen_of_row _ _ i _ _ k.h

theorem Hd.one (h : Hd) : h.cells.all (·.oneCell') = true := by
  simp [Hd.cells]
  exact ⟨rfl, rfl, rfl, rfl, rfl, rfl, rfl, rfl, rfl⟩
theorem idxL_ge (L : List Int) (x : Int) : -1 ≤ idxL L x := by unfold idxL; split <;> omega
theorem idxL_lt (L : List Int) (x : Int) : idxL L x < L.length ∨ idxL L x < 0 := by
  unfold idxL
  split
  · rename_i i h
    have := (List.findIdx?_eq_some_iff_getElem.1 h).1
    exact .inl (by omega)
  · exact .inr (by omega)
theorem dcOf_lt (d : Int) : dcOf d < 8 := by
  have h : depL.length = 8 := rfl
  have := idxL_lt depL d
  unfold dcOf; omega
theorem Mk.new {w W : World} {rate chans depth : Int} (hs : W.heap.size = w.heap.size + 1 + 1 + 1) (hp : W.heap[w.heap.size]? = some (.cells #[.int .i64 rate, .int .i64 chans, .int .i64 depth] 38 (0, 0))) (hr : HdAt W (w.heap.size + 1) Hd.zero) (hb : Below w.heap.size w W) (h : Hd) :
    Mk w (W.alloc (.cells h.cells 23)) rate chans depth h :=
  ⟨hrow_alloc hp _, hrow_alloc hr _, by rw [← hs]; exact heap_alloc_last W _, bal hb _⟩
theorem Make_bad (V : Bool) (n b m rate chans depth : Int) (hbad : badM b rate depth) (w : World) :
    Calls Tryd.prog 15 #[.bool V, .int .i64 n, .int .i64 b, .int .i64 m, .agg #[.int .i64 rate, .int .i64 chans, .int .i64 depth]] w fun e w' => e = .returned (.tuple #[Hd.zero.val, .int .i64 10]) ∧ Below w.heap.size w w' := by
  have HR : Hid (HdAt ((w.alloc (.cells #[.int .i64 rate, .int .i64 chans, .int .i64 depth] 38)).alloc (.cells Hd.zero.cells 23)) (w.heap.size + 1) Hd.zero) := by
    have h := heap_alloc_last (w.alloc (.cells #[.int .i64 rate, .int .i64 chans, .int .i64 depth] 38)) (.cells Hd.zero.cells 23)
    rw [World.size_alloc] at h
    exact h
  have Hb : Hid (Below w.heap.size w ((w.alloc (.cells #[.int .i64 rate, .int .i64 chans, .int .i64 depth] 38)).alloc (.cells Hd.zero.cells 23))) := bal (bal (Below.refl _ _) _) _
  by_cases h1 : b < 1
  · clear hbad
    go_enter Tryd.func15, Tryd.ntmps15
    go_wp2_with fail
    exact bodyPost_ret (results_row_tmp Tryd.results15 _ _ _ rfl rfl HR.out Tryd.underlying23 rfl (by kernel_rfl)) rfl ⟨rfl, Hb.out⟩
  by_cases h2 : b > 65535
  · clear hbad
    go_enter Tryd.func15, Tryd.ntmps15
    go_wp2_with fail
    exact bodyPost_ret (results_row_tmp Tryd.results15 _ _ _ rfl rfl HR.out Tryd.underlying23 rfl (by kernel_rfl)) rfl ⟨rfl, Hb.out⟩
  by_cases h3 : rate < 0
  · clear hbad
    go_enter Tryd.func15, Tryd.ntmps15
    go_wp2_with fail
    exact bodyPost_ret (results_row_tmp Tryd.results15 _ _ _ rfl rfl HR.out Tryd.underlying23 rfl (by kernel_rfl)) rfl ⟨rfl, Hb.out⟩
  by_cases h4 : rate > 1048575
  · clear hbad
    go_enter Tryd.func15, Tryd.ntmps15
    go_wp2_with fail
    exact bodyPost_ret (results_row_tmp Tryd.results15 _ _ _ rfl rfl HR.out Tryd.underlying23 rfl (by kernel_rfl)) rfl ⟨rfl, Hb.out⟩
  by_cases h5 : depth < 4
  · clear hbad
    go_enter Tryd.func15, Tryd.ntmps15
    go_wp2_with fail
    exact bodyPost_ret (results_row_tmp Tryd.results15 _ _ _ rfl rfl HR.out Tryd.underlying23 rfl (by kernel_rfl)) rfl ⟨rfl, Hb.out⟩
  by_cases h6 : depth > 32
  · clear hbad
    go_enter Tryd.func15, Tryd.ntmps15
    go_wp2_with fail
    exact bodyPost_ret (results_row_tmp Tryd.results15 _ _ _ rfl rfl HR.out Tryd.underlying23 rfl (by kernel_rfl)) rfl ⟨rfl, Hb.out⟩
  exact absurd hbad (by unfold badM; omega)
end Go.Proofs.YtgohfbfdhdepnaaDoor

namespace Go.Proofs.YtgohfbfdhdepnaaDoor
open Go.RowKit

theorem Fr.setFresh {S : Nat → Prop} {a b : World} (h : Fr S a b) {p : Addr} (hp : a.heap.size ≤ p.block) (u : Value) : Fr S a (b.setCell p u) :=
  ⟨h.os, h.tape, h.output, by have := h.size; simpa [World.setCell] using this, fun k hk hs => (Below.heap_setCell _ _ _ _ (by intro e; omega)).trans (h.block k hk hs)⟩
/-- A reader at work on a header in the block B2, beside a result of noughts in B1; Ws: the world in which the work began. -/
structure Hs (w0 Ws W : World) (Q R t : Nat) (A : Option Addr) (l : List UInt8) (c : Nat) (e : Int) (B1 B2 : Nat) (h : Hd) : Prop where
  rq : Rq w0 W Q R t A l c e
  z : HdAt W B1 Hd.zero
  h : HdAt W B2 h
  fr : Fr (FQ Q R) Ws W
  s1 : Ws.heap.size ≤ B1
  s2 : Ws.heap.size ≤ B2
  ne : B1 ≠ B2
  q : Q < Ws.heap.size
  r : R < Ws.heap.size
  ra : Rd Ws A (bv l)
theorem Hs.step {w0 Ws W W' : World} {Q R t t' : Nat} {A : Option Addr} {l : List UInt8} {c : Nat} {e e' : Int} {B1 B2 : Nat} {h : Hd} (H : Hs w0 Ws W Q R t A l c e B1 B2 h) (hr : Rq w0 W' Q R t' A l c e') (f : Fr (FQ Q R) W W') : Hs w0 Ws W' Q R t' A l c e' B1 B2 h := by
  have h1 := H.s1
  have h2 := H.s2
  have hq := H.q
  have hr' := H.r
  exact ⟨hr, f.row H.z (fun k => by rcases k with k | k <;> omega), f.row H.h (fun k => by rcases k with k | k <;> omega), H.fr.trans f, h1, h2, H.ne, hq, hr', H.ra⟩
theorem Hs.set {w0 Ws W : World} {Q R t : Nat} {A : Option Addr} {l : List UInt8} {c : Nat} {e : Int} {B1 B2 : Nat} {h : Hd} (H : Hs w0 Ws W Q R t A l c e B1 B2 h) (i : Nat) (v : Value) (h' : Hd) (hc : h.cells.setIfInBounds i v = h'.cells) : Hs w0 Ws (W.setCell ⟨B2, i, none⟩ v) Q R t A l c e B1 B2 h' := by
  have h2 := H.s2
  have hq := H.q
  have hr := H.r
  have f : Fr (· = B2) W (W.setCell ⟨B2, i, none⟩ v) := (Fr.refl _ W).put i v
  have hA : ∀ k o, A = some ⟨k, o, none⟩ → 0 < (bv l).length → ¬ k = B2 := by
    rintro k o rfl hl rfl
    obtain ⟨k', o', e1, hc⟩ := H.ra 0 (bv l)[0] (List.getElem?_eq_getElem hl)
    injection e1 with e1; injection e1 with e1 e2; subst e1 e2
    have := cell_lt hc
    omega
  have hb : w0.heap.size ≤ Ws.heap.size := by have := H.rq.leq; omega
  refine ⟨⟨f.row H.rq.q (by omega), H.rq.rd.keep f (by omega) hA, H.rq.b.setCell (p := ⟨B2, i, none⟩) (Nat.le_trans hb h2) v, H.rq.leq, H.rq.ler, H.rq.ne⟩, row_other H.z H.ne i v, H.h.set i v h' hc, H.fr.setFresh (p := ⟨B2, i, none⟩) h2 v, H.s1, h2, H.ne, hq, hr, H.ra⟩
theorem Hs.res {w0 Ws W : World} {Q R t : Nat} {A : Option Addr} {l : List UInt8} {c : Nat} {e : Int} {B1 B2 : Nat} {h : Hd} (H : Hs w0 Ws W Q R t A l c e B1 B2 h) (cs : Array Value) : Rq w0 (W.setRow B1 cs) Q R t A l c e ∧ Fr (FQ Q R) Ws (W.setRow B1 cs) := by
  have h1 := H.s1
  have hq := H.q
  have hr := H.r
  have f : Fr (· = B1) W (W.setRow B1 cs) := ⟨rfl, rfl, rfl, by simp [World.setRow], fun k _ hk => setRow_other W B1 k cs hk⟩
  have hA : ∀ k o, A = some ⟨k, o, none⟩ → 0 < (bv l).length → ¬ k = B1 := by
    rintro k o rfl hl rfl
    obtain ⟨k', o', e1, hc⟩ := H.ra 0 (bv l)[0] (List.getElem?_eq_getElem hl)
    injection e1 with e1; injection e1 with e1 e2; subst e1 e2
    have := cell_lt hc
    omega
  have hb : w0.heap.size ≤ Ws.heap.size := by have := H.rq.leq; omega
  refine ⟨⟨f.row H.rq.q (by omega), H.rq.rd.keep f (by omega) hA, f.below H.rq.b (fun k hk => by omega), H.rq.leq, H.rq.ler, H.rq.ne⟩, ?_⟩
  exact ⟨H.fr.os, H.fr.tape, H.fr.output, by have := H.fr.size; have := f.size; omega, fun k hk hs => (f.block k (Nat.lt_of_lt_of_le hk H.fr.size) (by omega)).trans (H.fr.block k hk hs)⟩
theorem Hs.fz {w0 Ws W : World} {Q R t : Nat} {A : Option Addr} {l : List UInt8} {c : Nat} {e : Int} {B1 B2 : Nat} {h : Hd} (H : Hs w0 Ws W Q R t A l c e B1 B2 h) (i : Nat) : W.frozen? ⟨B2, i, none⟩ = false := frozen_of_row _ _ i _ _ H.h

theorem tqV_lt (l : List UInt8) (t : Nat) (e : Int) : tqV l t e 8 < 256 := by
  unfold tqV
  split
  · unfold tkV
    split
    · exact sg_lt (bitAt_lt l) t 8
    · omega
  · omega
/-- What head answers, step by step. -/
def HeadRel (l : List UInt8) (x1 x2 x3 t4 : Nat) (e9 : Int) : Prop :=
  ∃ (x0 t1 t2 t3 : Nat) (e1 e2 e3 e4 e5 e6 e7 e8 : Int), x0 = tqV l 0 0 8 ∧ t1 = tqT l 0 0 8 ∧ e1 = tqE l 0 0 8 ∧ e2 = wrE e1 ((x0 : Int) != 255) 14 ∧
    x1 = tqV l t1 e2 8 ∧ t2 = tqT l t1 e2 8 ∧ e3 = tqE l t1 e2 8 ∧ e4 = wrE e3 (((x1 / 2 : Nat) : Int) != 124) 14 ∧
    x2 = tqV l t2 e4 8 ∧ t3 = tqT l t2 e4 8 ∧ e5 = tqE l t2 e4 8 ∧ e6 = wrE e5 (blkL.getD (x2 / 16) 0 == -1 || ratL.getD (x2 % 16) 0 == -1) 13 ∧
    x3 = tqV l t3 e6 8 ∧ t4 = tqT l t3 e6 8 ∧ e7 = tqE l t3 e6 8 ∧ e8 = wrE e7 (decide (((x3 / 16 : Nat) : Int) > 10) || depL.getD (x3 / 2 % 8) 0 == -1) 13 ∧
    e9 = wrE e8 (((x3 % 2 : Nat) : Int) == 1) 12

set_option maxRecDepth 100000 in
set_option maxHeartbeats 8000000 in
theorem head_any (Q R : Nat) (A : Option Addr) (l : List UInt8) (c : Nat) (w0 W : World) (H : Rq w0 W Q R 0 A l c 0) (ht : HTabs w0) :
    Calls Tryd.prog 45 #[.pointer (some ⟨Q, 0, none⟩)] W fun z w' => ∃ (x1 x2 x3 t4 : Nat) (e9 : Int), z = .returned (Hd.mk ((x1 % 2 : Nat) == 1) (x2 / 16 : Nat) (x2 % 16 : Nat) (x3 / 16 : Nat) (x3 / 2 % 8 : Nat) 0 0 0 0).val ∧ Hid (HeadRel l x1 x2 x3 t4 e9) ∧ x2 < 256 ∧ x3 < 256 ∧ Rq w0 w' Q R t4 A l c e9 ∧ Fr (FQ Q R) W w' := by
  have HT := Lib.hid ht
  have hQ := (Array.getElem?_eq_some_iff.1 H.q).1
  have hR := (Array.getElem?_eq_some_iff.1 H.rd.row).1
  have hs : Hs w0 W ((W.alloc (.cells Hd.zero.cells 23)).alloc (.cells Hd.zero.cells 23)) Q R 0 A l c 0 W.heap.size (W.heap.size + 1) Hd.zero := by
    have hb : Below W.heap.size W ((W.alloc (.cells Hd.zero.cells 23)).alloc (.cells Hd.zero.cells 23)) := bal (bal (Below.refl _ _) _) _
    refine ⟨H.below hb, hrow_alloc (heap_alloc_last W _) _, ?_, Fr.of hb, Nat.le_refl _, by omega, by omega, hQ, hR, H.rd.rd⟩
    have h := heap_alloc_last (W.alloc (.cells Hd.zero.cells 23)) (.cells Hd.zero.cells 23)
    rw [World.size_alloc] at h
    exact h
  simp only [Hd.zero, Hd.cells] at hs
  have H0 := Lib.hid hs
  clear hs H ht
  go_enter Tryd.func45, Tryd.ntmps45
  go_wp2_with fail
  refine (take_any Q R _ A l c _ 8 w0 _ H0.out.rq).mono ?_
  rintro z wt ⟨rfl, hq, hf⟩
  obtain ⟨x0, kx0⟩ : ∃ v, tqV l 0 0 8 = v := ⟨_, rfl⟩
  obtain ⟨t1, kt1⟩ : ∃ v, tqT l 0 0 8 = v := ⟨_, rfl⟩
  obtain ⟨e1, ke1⟩ : ∃ v, tqE l 0 0 8 = v := ⟨_, rfl⟩
  have bx0 : x0 < 256 := by rw [← kx0]; exact tqV_lt l _ _
  rw [kt1, ke1] at hq
  rw [kx0]
  have Kx0 := Lib.hid kx0
  have Kt1 := Lib.hid kt1
  have Ke1 := Lib.hid ke1
  have H1 := Lib.hid (H0.out.step hq hf)
  clear kx0 kt1 ke1 hq hf H0
  go_wp2_with fail
  refine (wrongR_any Q R _ A l c _ ((x0 : Int) != 255) 14 w0 _ H1.out.rq).mono ?_
  rintro z wt ⟨⟨q, rfl⟩, hq, hf⟩
  obtain ⟨e2, ke2⟩ : ∃ v, wrE e1 ((x0 : Int) != 255) 14 = v := ⟨_, rfl⟩
  rw [ke2] at hq
  have Ke2 := Lib.hid ke2
  have H2 := Lib.hid (H1.out.step hq hf)
  clear ke2 hq hf H1
  go_wp2_with fail
  refine (take_any Q R _ A l c _ 8 w0 _ H2.out.rq).mono ?_
  rintro z wt ⟨rfl, hq, hf⟩
  obtain ⟨x1, kx1⟩ : ∃ v, tqV l t1 e2 8 = v := ⟨_, rfl⟩
  obtain ⟨t2, kt2⟩ : ∃ v, tqT l t1 e2 8 = v := ⟨_, rfl⟩
  obtain ⟨e3, ke3⟩ : ∃ v, tqE l t1 e2 8 = v := ⟨_, rfl⟩
  have bx1 : x1 < 256 := by rw [← kx1]; exact tqV_lt l _ _
  rw [kt2, ke3] at hq
  rw [kx1]
  have Kx1 := Lib.hid kx1
  have Kt2 := Lib.hid kt2
  have Ke3 := Lib.hid ke3
  have H3 := Lib.hid (H2.out.step hq hf)
  clear kx1 kt2 ke3 hq hf H2
  obtain ⟨y1, hy1⟩ : ∃ v : Nat, x1 / 2 = v := ⟨_, rfl⟩
  obtain ⟨z1, hz1⟩ : ∃ v : Nat, x1 % 2 = v := ⟨_, rfl⟩
  have s1 : (x1 : Int) / 2 = (y1 : Int) := by omega
  have a1 : bits .and .i64 (x1 : Int) 1 = (z1 : Int) := by
    have h := i64_and_nat x1 1 (by omega) (by omega)
    rw [Nat.and_one_is_mod, hz1] at h
    exact h
  have Hy1 := Lib.hid hy1
  have Hz1 := Lib.hid hz1
  clear hy1 hz1
  go_wp2_with fail
  refine (wrongR_any Q R _ A l c _ ((y1 : Int) != 124) 14 w0 _ H3.out.rq).mono ?_
  rintro z wt ⟨⟨q, rfl⟩, hq, hf⟩
  obtain ⟨e4, ke4⟩ : ∃ v, wrE e3 ((y1 : Int) != 124) 14 = v := ⟨_, rfl⟩
  rw [ke4] at hq
  have Ke4 := Lib.hid ke4
  have H4 := Lib.hid (H3.out.step hq hf)
  clear ke4 hq hf H3
  have f0 := H4.out.h.c 0 (.bool false) rfl
  have g0 := H4.out.fz 0
  have H5 := Lib.hid (H4.out.set 0 (.bool ((z1 : Int) == 1)) ⟨(z1 : Int) == 1, 0, 0, 0, 0, 0, 0, 0, 0⟩ rfl)
  go_upto_region 6 with fail
  clear f0 g0 H4 s1 a1
  generalize wt.setCell ⟨W.heap.size + 1, 0, none⟩ (.bool ((z1 : Int) == 1)) = w5 at *
  obtain ⟨v1, hv1⟩ : ∃ v1 : Bool, ((z1 : Int) == 1) = v1 := ⟨_, rfl⟩
  rw [hv1] at H5
  have Hv1 := Lib.hid hv1
  clear hv1
  go_wp2_with fail
  refine (take_any Q R _ A l c _ 8 w0 _ H5.out.rq).mono ?_
  rintro z wt ⟨rfl, hq, hf⟩
  obtain ⟨x2, kx2⟩ : ∃ v, tqV l t2 e4 8 = v := ⟨_, rfl⟩
  obtain ⟨t3, kt3⟩ : ∃ v, tqT l t2 e4 8 = v := ⟨_, rfl⟩
  obtain ⟨e5, ke5⟩ : ∃ v, tqE l t2 e4 8 = v := ⟨_, rfl⟩
  have bx2 : x2 < 256 := by rw [← kx2]; exact tqV_lt l _ _
  rw [kt3, ke5] at hq
  rw [kx2]
  have Kx2 := Lib.hid kx2
  have Kt3 := Lib.hid kt3
  have Ke5 := Lib.hid ke5
  have H6 := Lib.hid (H5.out.step hq hf)
  clear kx2 kt3 ke5 hq hf H5
  obtain ⟨p2, hp2⟩ : ∃ v : Nat, x2 / 16 = v := ⟨_, rfl⟩
  obtain ⟨q2, hq2⟩ : ∃ v : Nat, x2 % 16 = v := ⟨_, rfl⟩
  have bp2 : p2 < 16 := by omega
  have bq2 : q2 < 16 := by omega
  have s2 : (x2 : Int) / 16 = (p2 : Int) := by omega
  have a2 : bits .and .i64 (x2 : Int) 15 = (q2 : Int) := by
    have h := i64_and_nat x2 15 (by omega) (by omega)
    rw [show x2 &&& 15 = x2 % 16 from Nat.and_two_pow_sub_one_eq_mod x2 4, hq2] at h
    exact h
  have Hp2 := Lib.hid hp2
  have Hq2 := Lib.hid hq2
  clear hp2 hq2
  have f1 := H6.out.h.c 1 (.int .i64 0) rfl
  have g1 := H6.out.fz 1
  have H7 := Lib.hid (H6.out.set 1 (.int .i64 (p2 : Int)) ⟨v1, p2, 0, 0, 0, 0, 0, 0, 0⟩ rfl)
  have f2 := H7.out.h.c 2 (.int .i64 0) rfl
  have g2 := H7.out.fz 2
  have H8 := Lib.hid (H7.out.set 2 (.int .i64 (q2 : Int)) ⟨v1, p2, q2, 0, 0, 0, 0, 0, 0⟩ rfl)
  go_upto_region 8 with fail
  clear f1 g1 f2 g2 H6 H7 s2 a2
  generalize (wt.setCell ⟨W.heap.size + 1, 1, none⟩ (.int .i64 (p2 : Int))).setCell ⟨W.heap.size + 1, 2, none⟩ (.int .i64 (q2 : Int)) = w8 at *
  have f1 := H8.out.h.c 1 (.int .i64 p2) rfl
  have f2 := H8.out.h.c 2 (.int .i64 q2) rfl
  have u1 := (HT.out.below H8.out.rq.b).blk p2 bp2
  have u2 := (HT.out.below H8.out.rq.b).rat q2 bq2
  obtain ⟨k1, hk1⟩ : ∃ v, blkL.getD p2 0 = v := ⟨_, rfl⟩
  obtain ⟨k2, hk2⟩ : ∃ v, ratL.getD q2 0 = v := ⟨_, rfl⟩
  rw [hk1] at u1
  rw [hk2] at u2
  have Hk1 := Lib.hid hk1
  have Hk2 := Lib.hid hk2
  have ip2 : (p2 : Int) < 16 := by omega
  have iq2 : (q2 : Int) < 16 := by omega
  clear hk1 hk2
  obtain ⟨e6, ke6⟩ : ∃ v, wrE e5 (k1 == -1 || k2 == -1) 13 = v := ⟨_, rfl⟩
  have Ke6 := Lib.hid ke6
  clear ke6
  go_cut [] (fun wx => Hs w0 W wx Q R t3 A l c e6 W.heap.size (W.heap.size + 1) ⟨v1, p2, q2, 0, 0, 0, 0, 0, 0⟩)
  case first =>
    by_cases hk : k1 = -1
    · have hk' : (k1 == -1) = true := by rw [beq_iff_eq]; exact hk
      have e10 : wrE e5 true 13 = e6 := by rw [← Ke6.out, hk']; rfl
      clear hk
      go_wp2_with fail
      refine (wrongR_any Q R _ A l c _ true 13 w0 _ H8.out.rq).mono ?_
      rintro z wt2 ⟨⟨q, rfl⟩, hq, hf⟩
      rw [e10] at hq
      have h9 := Lib.hid (H8.out.step hq hf)
      clear hq hf e10
      go_wp2_with fail
      go_meet
      exact h9.out
    · have hk' : (k1 == -1) = false := by rw [beq_eq_false_iff_ne]; exact hk
      have e10 : wrE e5 (k2 == -1) 13 = e6 := by rw [← Ke6.out, hk']; rfl
      clear hk
      go_wp2_with fail
      refine (wrongR_any Q R _ A l c _ (k2 == -1) 13 w0 _ H8.out.rq).mono ?_
      rintro z wt2 ⟨⟨q, rfl⟩, hq, hf⟩
      rw [e10] at hq
      have h9 := Lib.hid (H8.out.step hq hf)
      clear hq hf e10
      go_wp2_with fail
      go_meet
      exact h9.out
  case rest =>
    obtain ⟨w9, hw9⟩ : ∃ w9, wc = w9 := ⟨_, rfl⟩
    rw [hw9] at hcut ⊢
    have H9 := Lib.hid hcut
    clear hcut hw9 f1 f2 u1 u2 H8
    go_wp2_with fail
    refine (take_any Q R _ A l c _ 8 w0 _ H9.out.rq).mono ?_
    rintro z wt ⟨rfl, hq, hf⟩
    obtain ⟨x3, kx3⟩ : ∃ v, tqV l t3 e6 8 = v := ⟨_, rfl⟩
    obtain ⟨t4, kt4⟩ : ∃ v, tqT l t3 e6 8 = v := ⟨_, rfl⟩
    obtain ⟨e7, ke7⟩ : ∃ v, tqE l t3 e6 8 = v := ⟨_, rfl⟩
    have bx3 : x3 < 256 := by rw [← kx3]; exact tqV_lt l _ _
    rw [kt4, ke7] at hq
    rw [kx3]
    have Kx3 := Lib.hid kx3
    have Kt4 := Lib.hid kt4
    have Ke7 := Lib.hid ke7
    have H10 := Lib.hid (H9.out.step hq hf)
    clear kx3 kt4 ke7 hq hf H9
    obtain ⟨p3, hp3⟩ : ∃ v : Nat, x3 / 16 = v := ⟨_, rfl⟩
    obtain ⟨y3, hy3⟩ : ∃ v : Nat, x3 / 2 = v := ⟨_, rfl⟩
    obtain ⟨m3, hm3⟩ : ∃ v : Nat, x3 / 2 % 8 = v := ⟨_, rfl⟩
    obtain ⟨z3, hz3⟩ : ∃ v : Nat, x3 % 2 = v := ⟨_, rfl⟩
    have bp3 : p3 < 16 := by omega
    have bm3 : m3 < 8 := by omega
    have s3 : (x3 : Int) / 16 = (p3 : Int) := by omega
    have s4 : (x3 : Int) / 2 = (y3 : Int) := by omega
    have a3 : bits .and .i64 (y3 : Int) 7 = (m3 : Int) := by
      have h := i64_and_nat y3 7 (by omega) (by omega)
      rw [show y3 &&& 7 = y3 % 8 from Nat.and_two_pow_sub_one_eq_mod y3 3, ← hy3, hm3] at h
      rw [hy3] at h
      exact h
    have a4 : bits .and .i64 (x3 : Int) 1 = (z3 : Int) := by
      have h := i64_and_nat x3 1 (by omega) (by omega)
      rw [Nat.and_one_is_mod, hz3] at h
      exact h
    have Hp3 := Lib.hid hp3
    have Hm3 := Lib.hid hm3
    have Hz3 := Lib.hid hz3
    clear hp3 hm3 hz3 hy3
    have f1 := H10.out.h.c 3 (.int .i64 0) rfl
    have g1 := H10.out.fz 3
    have H11 := Lib.hid (H10.out.set 3 (.int .i64 (p3 : Int)) ⟨v1, p2, q2, p3, 0, 0, 0, 0, 0⟩ rfl)
    have f2 := H11.out.h.c 4 (.int .i64 0) rfl
    have g2 := H11.out.fz 4
    have H12 := Lib.hid (H11.out.set 4 (.int .i64 (m3 : Int)) ⟨v1, p2, q2, p3, m3, 0, 0, 0, 0⟩ rfl)
    go_upto_region 11 with fail
    clear f1 g1 f2 g2 H10 H11 s3 s4 a3
    generalize (wt.setCell ⟨W.heap.size + 1, 3, none⟩ (.int .i64 (p3 : Int))).setCell ⟨W.heap.size + 1, 4, none⟩ (.int .i64 (m3 : Int)) = w11 at *
    have f1 := H12.out.h.c 3 (.int .i64 p3) rfl
    have f2 := H12.out.h.c 4 (.int .i64 m3) rfl
    have u1 := (HT.out.below H12.out.rq.b).dep m3 bm3
    obtain ⟨k3, hk3⟩ : ∃ v, depL.getD m3 0 = v := ⟨_, rfl⟩
    rw [hk3] at u1
    have Hk3 := Lib.hid hk3
    have im3 : (m3 : Int) < 8 := by omega
    clear hk3
    obtain ⟨e8, ke8⟩ : ∃ v, wrE e7 (decide ((p3 : Int) > 10) || k3 == -1) 13 = v := ⟨_, rfl⟩
    have Ke8 := Lib.hid ke8
    clear ke8
    go_cut [] (fun wx => Hs w0 W wx Q R t4 A l c e8 W.heap.size (W.heap.size + 1) ⟨v1, p2, q2, p3, m3, 0, 0, 0, 0⟩)
    case first =>
      by_cases hk : (p3 : Int) > 10
      · have hk' : decide ((p3 : Int) > 10) = true := decide_eq_true hk
        have e10 : wrE e7 true 13 = e8 := by rw [← Ke8.out, hk']; rfl
        go_wp2_with fail
        refine (wrongR_any Q R _ A l c _ true 13 w0 _ H12.out.rq).mono ?_
        rintro z wt2 ⟨⟨q, rfl⟩, hq, hf⟩
        rw [e10] at hq
        have h9 := Lib.hid (H12.out.step hq hf)
        clear hq hf e10
        go_wp2_with fail
        go_meet
        exact h9.out
      · have hk' : decide ((p3 : Int) > 10) = false := decide_eq_false hk
        have e10 : wrE e7 (k3 == -1) 13 = e8 := by rw [← Ke8.out, hk']; rfl
        go_wp2_with fail
        refine (wrongR_any Q R _ A l c _ (k3 == -1) 13 w0 _ H12.out.rq).mono ?_
        rintro z wt2 ⟨⟨q, rfl⟩, hq, hf⟩
        rw [e10] at hq
        have h9 := Lib.hid (H12.out.step hq hf)
        clear hq hf e10
        go_wp2_with fail
        go_meet
        exact h9.out
    case rest =>
      obtain ⟨w13, hw13⟩ : ∃ w13, wc = w13 := ⟨_, rfl⟩
      rw [hw13] at hcut ⊢
      have H13 := Lib.hid hcut
      clear hcut hw13 f1 f2 u1 H12
      go_wp2_with fail
      refine (wrongR_any Q R _ A l c _ ((z3 : Int) == 1) 12 w0 _ H13.out.rq).mono ?_
      rintro z wt2 ⟨⟨q, rfl⟩, hq, hf⟩
      obtain ⟨e9, ke9⟩ : ∃ v, wrE e8 ((z3 : Int) == 1) 12 = v := ⟨_, rfl⟩
      rw [ke9] at hq
      have Ke9 := Lib.hid ke9
      have H14 := Lib.hid (H13.out.step hq hf)
      clear ke9 hq hf H13
      have HRel : Hid (HeadRel l x1 x2 x3 t4 e9) := by
        refine ⟨x0, t1, t2, t3, e1, e2, e3, e4, e5, e6, e7, e8, Kx0.out.symm, Kt1.out.symm, Ke1.out.symm, Ke2.out.symm, Kx1.out.symm, Kt2.out.symm, Ke3.out.symm, ?_, Kx2.out.symm, Kt3.out.symm, Ke5.out.symm, ?_, Kx3.out.symm, Kt4.out.symm, Ke7.out.symm, ?_, ?_⟩
        · rw [Hy1.out]; exact Ke4.out.symm
        · rw [Hp2.out, Hq2.out, Hk1.out, Hk2.out]; exact Ke6.out.symm
        · rw [Hp3.out, Hm3.out, Hk3.out]; exact Ke8.out.symm
        · rw [Hz3.out]; exact Ke9.out.symm
      have HV : Hid ((Hd.mk ((x1 % 2 : Nat) == 1) (x2 / 16 : Nat) (x2 % 16 : Nat) (x3 / 16 : Nat) (x3 / 2 % 8 : Nat) 0 0 0 0) = ⟨v1, p2, q2, p3, m3, 0, 0, 0, 0⟩) := by
        show _ = _
        rw [Hp2.out, Hq2.out, Hp3.out, Hm3.out, Hz1.out, ← Hv1.out]
        congr 1
        by_cases h : z1 = 1
        · subst h; rfl
        · have h2 : ¬ ((z1 : Int) = 1) := by omega
          rw [beq_eq_false_iff_ne.2 h, beq_eq_false_iff_ne.2 h2]
      clear Kx0 Kt1 Ke1 Ke2 Kx1 Kt2 Ke3 Kx2 Kt3 Ke5 Kx3 Kt4 Ke7 Ke4 Ke6 Ke8 Ke9 Hy1 Hp2 Hq2 Hk1 Hk2 Hp3 Hm3 Hk3 Hz3 Hz1 Hv1
      go_wp2_with (first | (refine wpList_load_row rfl 23 _ rfl (W.heap.size + 1) rfl 23 (Hd.mk v1 p2 q2 p3 m3 0 0 0 0).cells (0, 0) _ H14.out.h Tryd.underlying23 rfl (by kernel_rfl) ?_) | (refine wpList_store_row (c := Hd.zero.cells) (c' := (Hd.mk v1 p2 q2 p3 m3 0 0 0 0).cells) (t := 23) rfl 23 _ _ rfl W.heap.size rfl rfl H14.out.z (by kernel_rfl) rfl (Hd.one _) ?_))
      obtain ⟨hq, hf⟩ := H14.out.res (Hd.mk v1 p2 q2 p3 m3 0 0 0 0).cells
      exact bodyPost_ret (results_cell_row (cs := (Hd.mk v1 p2 q2 p3 m3 0 0 0 0).cells) (t := 23) (fr := (0, 0)) (g := W.heap.size) Tryd.results45 _ _ _ rfl (setRow_heap _ W.heap.size _ _ 23 (0, 0) H14.out.z) Tryd.underlying23 rfl (by kernel_rfl)) rfl ⟨x1, x2, x3, t4, e9, by rw [HV.out]; rfl, HRel, bx2, bx3, hq, hf⟩
end Go.Proofs.YtgohfbfdhdepnaaDoor

namespace Go.Proofs.YtgohfbfdhdepnaaDoor.C3
open Go.RowKit

theorem info_u8 : (Tryd.prog.info? 5).map (fun i => (i.zero, i.size, i.bytes)) = some (some (.int .u8 0), 1, 1) := by kernel_rfl
theorem one_u8 (n : Int) : ∀ u ∈ (#[Value.int .u8 n]).toList, u.oneCell' = true := one_int _ _
theorem ownsRow_one (w : World) (base : Nat) (hb : base ≤ w.heap.size) (e : TypeId) (v : Value) : (w.alloc (.cells #[v] e)).ownsRow base e 1 (.slice (some ⟨w.heap.size, 0, none⟩) 1 1) 1 [v] :=
  ⟨rfl, .inr ⟨w.heap.size, 1, #[v], rfl, hb, heap_alloc_new w _, Nat.le_refl _, by decide, rfl, rfl⟩⟩

theorem ownsRow_less {w : World} {b b' : Nat} {e : TypeId} {size n : Nat} {v : Value} {xs : List Value} (h : w.ownsRow b e size v n xs) (hb : b' ≤ b) : w.ownsRow b' e size v n xs := by
  refine ⟨h.1, ?_⟩
  rcases h.2 with h | ⟨g, cap, cur, h1, h2, h3⟩
  · exact .inl h
  · exact .inr ⟨g, cap, cur, h1, by omega, h3⟩

set_option maxRecDepth 100000 in
set_option maxHeartbeats 800000 in
theorem put_ok (n : Nat) (hn : n < 68719476736) (w : World) (ht : TabAt w) :
    Calls Tryd.prog 27 #[.int .i64 n] w fun e w' => ∃ v, e = .returned (.tuple #[v, .int .i64 0]) ∧ Hid (w'.ownsRow w.heap.size 5 1 v (szN n) (nv8 (codeN n))) ∧ Below w.heap.size w w' := by
  have Ht := Lib.hid ht; clear ht
  have hs := szN_pos n
  go_enter Tryd.func27, Tryd.ntmps27
  go_wp2_with fail
  refine (len_ok n hn _ (Ht.out.below (by repeat (first | exact Below.refl _ _ | assumption | refine below_drewN ?_ _ | refine Below.drew ?_ | refine Below.alloc ?_ (Nat.le_refl _) _ | refine bal ?_ _ | refine bnext ?_ (by assumption))))).mono ?_
  rintro e w1 ⟨rfl, rfl⟩
  by_cases h1 : szN n = 1
  · have H1 := Lib.hid h1
    have hc : codeN n = [n] := if_pos h1
    rw [h1]
    clear h1 hs
    have hlt : n < 128 := by
      have := H1.out; unfold szN at this; (repeat' split at this) <;> omega
    go_wp2_with fail
    go_ret2
    refine ⟨_, rfl, ?_, by repeat (first | exact Below.refl _ _ | assumption | refine below_drewN ?_ _ | refine Below.drew ?_ | refine Below.alloc ?_ (Nat.le_refl _) _ | refine bal ?_ _ | refine bnext ?_ (by assumption))⟩
    have h := ownsRow_one ((w.alloc (.cells #[.int .i64 n] 3)).alloc (.cells #[.int .i64 1] 3)) w.heap.size (by simp; omega) 5 (.int .u8 n)
    rw [hc, H1.out]
    have e : ((w.alloc (.cells #[.int .i64 n] 3)).alloc (.cells #[.int .i64 1] 3)).heap.size = w.heap.size + 1 + 1 := by simp
    rw [e] at h
    exact h
  · have h2 : ((szN n : Nat) : Int) ≠ 1 := by omega
    have h3 : (((szN n : Nat) : Int) == 1) = false := by rw [beq_eq_false_iff_ne]; exact h2
    have hf := first_eq n hn h1
    have Hcl := Lib.hid (codeN_length n)
    have Hca : Hid (∀ i, 0 < i → i < szN n → (codeN n)[i]? = some (restV n (szN n) i)) := fun i => codeN_at n i
    have Hc0 : Hid ((codeN n)[0]? = some (firstV n (szN n))) := by
      show _ = _
      unfold codeN; rw [if_neg h1]; rfl
    have Hf := Lib.hid hf
    clear hf h2 h1
    obtain ⟨cd, hcd⟩ : ∃ c, codeN n = c := ⟨_, rfl⟩
    rw [hcd] at Hcl Hca Hc0
    have Hcd := Lib.hid hcd
    clear hcd
    obtain ⟨k, hk⟩ : ∃ k, szN n = k := ⟨_, rfl⟩
    rw [hk] at hs h3 Hca Hc0 Hf Hcl
    rw [hk]
    have Hk := Lib.hid hk
    clear hk
    have R0 : Hid (∀ (i : Nat), i < k → ∀ W : World, W.cell? ⟨w.heap.size, 0, none⟩ = some (.int .i64 n) → W.cell? ⟨w.heap.size + 1, 0, none⟩ = some (.int .i64 k) →
        Calls Tryd.prog 53 #[.int .i64 i, .pointer (some ⟨w.heap.size, 0, none⟩), .pointer (some ⟨w.heap.size + 1, 0, none⟩)] W fun e w' => e = .returned (.int .i64 (partN n k i : Nat)) ∧ w' = W) := fun i hi W h1 h2 => rest_still n k i hi (by omega) _ _ W h1 h2
    obtain ⟨w2, hw2, hb2, hc1, hc2, hl2⟩ : ∃ w2, (w.alloc (.cells #[.int .i64 n] 3)).alloc (.cells #[.int .i64 k] 3) = w2 ∧ Below w.heap.size w w2 ∧ w2.cell? ⟨w.heap.size, 0, none⟩ = some (.int .i64 n) ∧ w2.cell? ⟨w.heap.size + 1, 0, none⟩ = some (.int .i64 k) ∧ w.heap.size + 1 < w2.heap.size := ⟨_, rfl, by repeat (first | exact Below.refl _ _ | assumption | refine below_drewN ?_ _ | refine Below.drew ?_ | refine Below.alloc ?_ (Nat.le_refl _) _ | refine bal ?_ _ | refine bnext ?_ (by assumption)), by go_simp, by go_simp, by simp⟩
    go_wp2_with fail
    try clear hw2
    have C0 : Calls Tryd.prog 53 #[.int .i64 0, .pointer (some ⟨w.heap.size, 0, none⟩), .pointer (some ⟨w.heap.size + 1, 0, none⟩)] w2.drew fun e w' => e = .returned (.int .i64 (partN n k 0 : Nat)) ∧ w' = w2.drew := R0.out 0 (by omega) w2.drew hc1 hc2
    generalize hp0 : partN n k 0 = q at *
    have HC0 := Lib.hid C0
    clear C0
    refine wp_region_still_tail 7 (by kernel_rfl) (by kernel_rfl) ?_
    simp only [List.take_succ_cons, List.take_zero, List.drop_succ_cons, List.drop_zero]
    repeat still_step
    still_call (HC0.out)
    repeat still_step
    refine wpStill_nil ?_
    change wpList _ _ _ _ _ w2.drew
    have hb3 : Below w.heap.size w w2.drew := hb2.drew
    have hd1 : w2.drew.cell? ⟨w.heap.size, 0, none⟩ = some (.int .i64 n) := hc1
    have hd2 : w2.drew.cell? ⟨w.heap.size + 1, 0, none⟩ = some (.int .i64 k) := hc2
    have hl3 : w.heap.size + 1 < w2.drew.heap.size := hl2
    generalize w2.drew = w3 at *
    clear hb2 hc1 hc2 hl2 HC0
    go_upto_region 10 with fail
    have E1 : bits .or .i64 ((65280 : Int) / 2 ^ k) (q : Int) % 256 = (firstV n k : Nat) := by
      have hq : q < 9223372036854775808 := by
        have : partN n k 0 ≤ n := Nat.div_le_self _ _
        omega
      have hk : 65280 / 2 ^ k < 9223372036854775808 := Nat.lt_of_le_of_lt (Nat.div_le_self _ _) (by omega)
      have h1 := i64_or_nat (65280 / 2 ^ k) q hk hq
      rw [show ((65280 : Int) / 2 ^ k) = ((65280 / 2 ^ k : Nat) : Int) from by simp, h1, ← Hf.out.1]
      omega
    rw [E1]
    clear E1
    generalize IntKind.u8.wrap (bits .or .i64 ((65280 : Int) / 2 ^ k) (q : Int)) = x30
    have HOwn := Lib.hid (ownsRow_one w3 w3.heap.size (Nat.le_refl _) 5 (.int .u8 (firstV n k : Nat)))
    have Ht1 : Hid (cd.take 1 = [firstV n k]) := by
      show _ = _
      have := Hc0.out
      cases cd with
      | nil => simp at this
      | cons x l => simp at this; simp [this]
    go_loopw [8, 9] (fun v i wr => ∃ j : Nat, 1 ≤ j ∧ j ≤ k ∧ i = .int .i64 j ∧ Hid (wr.ownsRow w3.heap.size 5 1 v j (nv8 (cd.take j))) ∧ Below w3.heap.size w3 wr) (fun _ i _ => k - (intOf i).toNat)
    case atStart =>
      refine ⟨1, by omega, by omega, rfl, ?_, by repeat (first | exact Below.refl _ _ | assumption | refine below_drewN ?_ _ | refine Below.drew ?_ | refine Below.alloc ?_ (Nat.le_refl _) _ | refine bal ?_ _ | refine bnext ?_ (by assumption))⟩
      rw [Ht1.out]; exact HOwn.out
    case round =>
      clear HOwn
      obtain ⟨j, hj1, hj, rfl, Hown, hb⟩ := hrel
      have hc1 : wr.cell? ⟨w.heap.size, 0, none⟩ = some (.int .i64 n) := (hb.cell (p := ⟨w.heap.size, 0, none⟩) (by show w.heap.size < _; omega)).trans hd1
      have hc2 : wr.cell? ⟨w.heap.size + 1, 0, none⟩ = some (.int .i64 k) := (hb.cell (p := ⟨w.heap.size + 1, 0, none⟩) hl3).trans hd2
      by_cases hjj : j < k
      · have Hc := Lib.hid (R0.out j hjj wr hc1 hc2)
        have Ht : Hid (nv8 (cd.take (j + 1)) = nv8 (cd.take j) ++ [.int .u8 (restV n k j : Nat)]) := by
          show _ = _
          have hcj := Hca.out j (by omega) hjj
          have hjl : j < cd.length := by have := Hcl.out; omega
          rw [List.take_succ_eq_append_getElem hjl, nv8_append]
          rw [List.getElem?_eq_getElem hjl] at hcj
          rw [Option.some.inj hcj]; rfl
        have Hrv : Hid (restV n k j = 128 + partN n k j % 64) := rfl
        have hpn : partN n k j ≤ n := Nat.div_le_self _ _
        generalize partN n k j = p at *
        have E : bits .and .i64 (p : Int) 63 = ((p &&& 63 : Nat) : Int) := i64_and_nat p 63 (by omega) (by omega)
        have E2 : bits .or .i64 128 ((p &&& 63 : Nat) : Int) = ((128 ||| (p &&& 63) : Nat) : Int) := i64_or_nat 128 (p &&& 63) (by omega) (Nat.lt_of_le_of_lt Nat.and_le_right (by omega))
        have E3 := rest_eq p
        have HE := Lib.hid E
        have HE2 := Lib.hid E2
        have HE3 := Lib.hid E3
        clear E E2 E3
        go_wp2_with (first | (go_at_call 53; refine Hc.out.mono ?_; rintro e w5 ⟨rfl, rfl⟩) | (at_builtin; refine app1 (w0 := w3) rfl _ _ 28 rfl Tryd.underlying28 info_u8 rfl (by decide) rfl Hown.out (Nat.le_refl _) hb.size hb rfl rfl (one_u8 _) (by omega) (by unfold maxLen; omega) ?_; intro v1 w6 own1 hb1 hs1; have Hown1 := Lib.hid own1; clear own1))
        go_roundw
        case rel =>
          refine ⟨j + 1, by omega, by omega, by go_num, ?_, hb1⟩
          rw [Ht.out, Hrv.out]
          have h := Hown1.out
          have h3 := HE3.out
          have e : (((128 ||| (p &&& 63) : Nat) : Int)) % 256 = ((128 + p % 64 : Nat) : Int) := by omega
          rw [HE.out, HE2.out, e] at h
          exact h
        case measure => simp [intOf] <;> omega
      · obtain rfl : j = k := by omega
        have Hl : Hid (cd.take j = cd) := List.take_of_length_le (by rw [Hcl.out]; omega)
        go_wp2_with fail
        go_ret2
        refine ⟨_, rfl, ?_, hb3.trans (hb.mono hb3.size)⟩
        have := ownsRow_less Hown.out hb3.size
        rw [Hl.out] at this
        rw [Hk.out, Hcd.out]
        exact this
end Go.Proofs.YtgohfbfdhdepnaaDoor.C3
