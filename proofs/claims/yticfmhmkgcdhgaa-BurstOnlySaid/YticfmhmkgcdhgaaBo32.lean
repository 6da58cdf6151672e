/-
  A region that draws its order, in a round of a range over a function, at the wide fence: the laws of the plain regions serve.
-/
import Derived.Test.YticfmhmkgcdhgaaBo30
import Derived.Test.YticfmhmkgcdhgaaBo31
import Derived.StillTailTactics
import Derived.RangeFuncNested
import Derived.RangeFuncBound
import Derived.RangeFuncCalls
import Derived.RangeFuncLeaves
import Derived.RangeFuncBox
import Derived.Shelf.Abstract
import Derived.Shelf.RegionOpen
import Derived.OwnWalkIn
import Derived.TacticsInMore
import Derived.LoopNIn
import Derived.LoopIn
set_option linter.unusedSimpArgs false
set_option linter.unusedVariables false
namespace Go
open Go.RowKit
section
variable {P : Program} {r n : Nat}
theorem rowsIn_round {row : String} {args : Array Value} {w : World} {R : Value → World → Prop} (h : Rows P row args w R) : RowsIn (Fence.wide.inRound r) n P row args w R :=
  fun c cs _ => let ⟨v, w', x, s⟩ := h c cs; ⟨v, w', x, stepsIn_wide.2 s⟩
theorem callsIn_round {f : FuncId} {args : Array Value} {w : World} {R : Ending → World → Prop} (h : Calls P f args w R) : CallsIn (Fence.wide.inRound r) n P f args w R :=
  CallsIn.inRound r (callsIn_wide.2 h)
def Oper.noDefer (o : Oper) : Bool := match o.op with | .defer _ => false | _ => true
theorem Oper.noDefer_spec {o : Oper} (h : o.noDefer = true) : ∀ c, o.op ≠ .defer c := by
  intro c e
  simp [Oper.noDefer, e] at h
theorem Oper.wpIn_round {o : Oper} {a : Act} {w : World} {K : Act → World → Prop} {Q : Exit → Act → World → Prop} (hd : o.noDefer = true) (h : o.wp P a w K Q) : o.wpIn (Fence.wide.inRound r) n P a w K Q := by
  refine ⟨fun _ _ => trivial, ?_⟩
  rw [Oper.semAt_eq _ _ _ (Oper.noDefer_spec hd)]
  unfold Oper.wp at h
  generalize (execOp a.eval o).run P w = x at *
  cases x with
  | ok m w' =>
    cases m <;> simp only [Oper.upon, Oper.uponIn] at h ⊢
    case value => exact h
    case skip => exact h
    case defer => exact h
    case enter => exact ⟨fun e => by simp [Fence.inRound, Fence.wide] at e, callsIn_round h⟩
    case row => exact ⟨fun e => by simp [Fence.inRound, Fence.wide] at e, rowsIn_round h⟩
  | halt y w' => cases y <;> simp only [Oper.upon, Oper.uponIn] at h ⊢ <;> exact h
theorem wpOpIn_round {ops : Array Oper} {Q : Exit → Act → World → Prop} (hQ : ¬ LetsOut Q) (hd : ∀ (i : Nat) (o : Oper), ops[i]? = some o → o.noDefer = true) {i : Nat} {K K' : Act → World → Prop} {a : Act} {w : World} (hK : ∀ a w, K a w → K' a w)
    (h : wpOp P ops Q i K a w) : wpOpIn (Fence.wide.inRound r) n P ops Q i K' a w := by
  unfold wpOp at h
  unfold wpOpIn
  cases ho : ops[i]? with
  | none => simp only [ho] at h ⊢; exact hK _ _ h
  | some o =>
    simp only [ho] at h ⊢
    split
    · rename_i hw
      simp only [hw, if_true] at h
      rcases h with h | ⟨_, h⟩
      · exact Oper.wpIn_mono hK (Oper.wpIn_round (hd i o ho) h)
      · exact absurd h hQ
    · rename_i hw
      simp only [hw] at h
      exact ⟨fun _ _ => trivial, hK _ _ h⟩
theorem wpAnyIn_round {ops : Array Oper} {Q : Exit → Act → World → Prop} {md : Region.Mode} (hQ : ¬ LetsOut Q) (hd : ∀ (i : Nat) (o : Oper), ops[i]? = some o → o.noDefer = true) :
    ∀ (fuel : Nat) (listed : Array Bool) (a : Act) (w : World), wpAny P md ops Q fuel listed a w → wpAnyIn (Fence.wide.inRound r) n P md ops Q fuel listed a w
  | 0, _, _, _, h => h
  | fuel + 1, _, _, _, h => ⟨h.1, fun i hi => wpOpIn_round hQ hd (fun a w => wpAnyIn_round hQ hd fuel _ a w) (h.2 i hi)⟩
def noDefers (l : List Oper) : Bool := l.all Oper.noDefer
theorem noDefers_spec {l : List Oper} (h : noDefers l = true) : ∀ (i : Nat) (o : Oper), l.toArray[i]? = some o → o.noDefer = true := by
  intro i o ho
  rw [List.getElem?_toArray] at ho
  exact List.all_eq_true.1 h o (List.mem_of_getElem? ho)
theorem wpIn_round_any {id : Nat} {l : List Oper} {Q : Exit → Act → World → Prop} {a : Act} {w : World} (hm : P.follows .mixedOrders = true) (hQ : ¬ LetsOut Q) (hd : noDefers l = true)
    (h : wpAny P .any l.toArray Q l.length (Array.replicate l.length false) a w.drew) : (Code.region id l.toArray true).wpIn (Fence.wide.inRound r) n P Q a w :=
  wpIn_region_any hm (wpAnyIn_round hQ (noDefers_spec hd) _ _ _ _ h)
/-- The head of still operations, then the rest, in a round. -/
theorem wpIn_round_head {id : Nat} {a : Act} {w : World} {l : List Oper} {Q : Exit → Act → World → Prop} (S : World → Prop) (m g : Nat) (hm : P.follows .mixedOrders = true) (hL : ¬ LetsOut Q) (hd : noDefers l = true) (hng : l.length = g + m) (hB : (Region.noSelect l.toArray && Region.lexH .any l.toArray m 0 (Array.replicate l.length false)) = true)
    (hQ : ∀ c a d v w, Q (.panic c) (a.put d v) w → Q (.panic c) a w) (hS : S w.drew)
    (h : wpHead P l.toArray S (fun a' => wpAnyH P .any l.toArray Q S g (Region.setFrom m 0 (Array.replicate l.length false)) a' w.drew) (l.take m) a) : (Code.region id l.toArray true).wpIn (Fence.wide.inRound r) n P Q a w := by
  simp only [Bool.and_eq_true] at hB
  have ht : (l.take m).length = m := by simp; omega
  refine wpIn_round_any hm hL hd (wpAny_of_held (S := S) _ _ _ _ ?_)
  have := wpAnyH_head (md := .any) (g := g) (S := S) hB.1 hQ (l.take m) 0 (Array.replicate l.length false) a w.drew (fun j hj => by
    have hj' : j < m := by rw [ht] at hj; exact hj
    simp [hj']) (by rw [ht]; exact hB.2) hS (by rw [ht]; exact h)
  rw [ht, ← hng] at this
  exact this
/-- Still operations, then a list of others, in a round. -/
theorem wpIn_round_still_tail {m id : Nat} {Q : Exit → Act → World → Prop} {a : Act} {w : World} {l : List Oper} (n : Nat) (hm : P.follows .mixedOrders = true) (hL : ¬ LetsOut Q) (hd : noDefers l = true) (hB : Region.lexTailB .any l.toArray n = true)
    (h : wpStill P l.toArray { w with drawn := w.drawn + 1 } (fun a' => wpList P l.toArray Q (l.drop n) a' { w with drawn := w.drawn + 1 }) (l.take n) a) : (Code.region id l.toArray true).wpIn (Fence.wide.inRound r) m P Q a w := by
  simp only [Region.lexTailB, Bool.and_eq_true, decide_eq_true_eq] at hB
  obtain ⟨⟨⟨⟨hsel, hn⟩, hs⟩, hc⟩, hlex⟩ := hB
  have hn' : n < l.length := by simpa using hn
  have htl : (l.take n).length = n := by simp; omega
  have hdl : (l.drop n).length = l.toArray.size - n := by simp
  have inv0 : HeadInv .any l.toArray n (Array.replicate l.toArray.size false) :=
    ⟨by simp, fun j oj _ hl => (by rw [getD_replicate_false] at hl; cases hl), fun t _ ht => getD_in (by simpa using ht) (getD_replicate_false _ _)⟩
  have H := wpAnyL_lex (md := .any) (g := l.toArray.size - n) hsel hs hc hn (l.take n) 0 _ a (fun j hj => by
    have hj' : j < n := by rw [htl] at hj; exact hj
    simp [hj']) (by simpa using htl) inv0 (by rw [htl]; exact hlex) h
  refine wpIn_round_any hm hL hd ?_
  have := wpAny_of_head (Q' := Q) (g := l.toArray.size - n) (fun listed a' hL => by
    have := wpAny_of_seq (md := .any) (Q' := Q) (l.drop n) n listed a' { w with drawn := w.drawn + 1 } (fun j => by simp [List.getElem?_drop]) (by rw [hdl]; exact hL.1) hL.2
    rwa [hdl] at this) _ _ _ H
  rw [htl, show n + (l.toArray.size - n) = l.toArray.size by omega] at this
  exact this
theorem letsOut_ownG {α : Type} {B : Nat} {Kp : World → World → Prop} {I : List α → World → Prop} {Ix : Code → List α → World → Prop} {xs : List α} {W : World} : ¬ LetsOut (ownPostG B Kp I Ix xs W) := by
  rintro ⟨a, w, h⟩
  exact h
end
end Go
namespace Go.Proofs.Yticfmhmkgcdhgaa
open Go.RowKit
/-- A region that only makes memory, in a round. -/
theorem wpIn_round_specs {P : Program} {r m : Nat} {id : Nat} {l : List Oper} {Q : Exit → Act → World → Prop} {a0 : Act} {w0 : World} (hL : ¬ LetsOut Q) (hd : noDefers l = true) (specs : List Spec) (w : World) (hm : P.follows .mixedOrders = true)
    (hJ : Below w.heap.size w w0) {n : Nat} (hn : a0.tmps.size = n) (hord : orderOk l n = true) (hop : OpsAll (opOk P l (fun w' => Below w.heap.size w w') (specR specs) a0) 0 l)
    (hQ : ∀ f w', Below w.heap.size w w' → (∀ i, i < l.length → specR specs i (f i) w') → Q .normal (finA l 0 f a0) w') : (Code.region id l.toArray true).wpIn (Fence.wide.inRound r) m P Q a0 w0 := by
  refine wpIn_round_any hm hL hd ?_
  exact wp_any_mono (fun w' => Below w.heap.size w w') (specR specs) hJ.drew (fun i v w w' h hb => Spec.stable (specs.getD i .any) v w w' h hb) (hn ▸ hord) hop hQ
end Go.Proofs.Yticfmhmkgcdhgaa
