/-
  Steps of the head of a drawn region.
-/
import Derived.Test.YticfmhmkgcdhgaaBo29
import Derived.Laws.CopyOwn
set_option linter.unusedSimpArgs false
set_option linter.unusedVariables false
namespace Go
open Go.RowKit
/-- The beginning, in a function that does not panic in this region. -/
theorem wp_region_headN {P : Program} {Q : Exit → Act → World → Prop} {id : Nat} {a : Act} {w : World} {l : List Oper} (S : World → Prop) (n g : Nat) (hm : P.follows .mixedOrders = true) (hng : l.length = g + n) (hB : (Region.noSelect l.toArray && Region.lexH .any l.toArray n 0 (Array.replicate l.length false)) = true)
    (hS : S w.drew) (h : wpHead P l.toArray S (fun a' => wpAnyH P .any l.toArray (NoPanic Q) S g (Region.setFrom n 0 (Array.replicate l.length false)) a' w.drew) (l.take n) a) : (Code.region id l.toArray true).wp P Q a w :=
  wp_region_noPanic (wp_region_head S n g hm hng hB (fun _ _ _ _ _ h => h) hS h)
theorem wpAnyH_doneN {P : Program} {ops : Array Oper} {Q : Exit → Act → World → Prop} {md : Region.Mode} {S : World → Prop} {listed : Array Bool} {a : Act} {w : World} {fuel : Nat} (hr : Region.ready md ops listed = []) (h : Q .normal a w) : wpAnyH P md ops (NoPanic Q) S fuel listed a w := wpAnyH_done hr (NoPanic.normal h) fuel
theorem of_step {c : Bool} {X E : Prop} (hc : c = true) (h : if c = true then X else E) : X := by rwa [if_pos hc] at h
/-- The one operation that may come up, written out. -/
theorem wpAnyH_next {P : Program} {l rest : List Oper} {Q : Exit → Act → World → Prop} {md : Region.Mode} {S : World → Prop} {i fuel : Nat} {listed : Array Bool} {a : Act} {w : World} {o : Oper} (hr : Region.ready md l.toArray listed = [i]) (ho : l.drop i = o :: rest) (hw : Region.wanted o (yielded l.toArray a.tmps) = true)
    (h : ∀ K : Act → World → Prop, Shut (∀ a w, S w → wpAnyH P md l.toArray Q S fuel (listed.setIfInBounds i true) a w → K a w) → Oper.wp P o a w K Q) : wpAnyH P md l.toArray Q S (fuel + 1) listed a w :=
  wpAnyH_one hr (by
    have : (l.drop i)[0]? = some o := by rw [ho]; rfl
    rw [List.getElem?_drop] at this
    simpa using this) hw (h _ fun a w hS hW => ⟨hS, hW⟩)
end Go
