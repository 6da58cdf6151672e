/-
  A list of calls beside a Writer: what stays.
-/
import Derived.Test.YtfncmgojeaeihaaCodes01
import Derived.Lib.OwnKind
namespace Go.Proofs.Ytfncmgojeaeihaa
open Go.RowKit

def cellT (x : T3) : List Value := [.int .i64 x.a, .int .i64 x.n, .int .i64 x.v]
def cellsT (l : List T3) : List Value := l.flatMap cellT
theorem cellsT_snoc (l : List T3) (x : T3) : cellsT (l ++ [x]) = cellsT l ++ cellT x := by simp [cellsT]
theorem info_op : (Try.prog.info? 47).map (fun i => (i.zero, i.size, i.bytes)) = some (some (.agg #[.int .i64 0, .int .i64 0, .int .i64 0]), 3, 24) := by kernel_rfl
theorem one_op (a n v : Int) : ∀ u ∈ (#[Value.int .i64 a, Value.int .i64 n, Value.int .i64 v]).toList, u.oneCell' = true := by
  intro u hu
  simp at hu
  rcases hu with rfl | rfl | rfl <;> rfl
/-- A Writer's blocks are not the list's. -/
theorem Wtr.notOp {w : World} {R : Nat} {bs : List Nat} {u : Value} (h : Wtr w R bs u) {B n : Nat} {v : Value} {xs : List Value} (ho : w.ownsRow B 47 3 v n xs) : ∀ k, WS R u k → v.ownBlock ≠ some k := by
  intro k hk e
  rcases ho.2 with ⟨rfl, -⟩ | ⟨g, cap, cur, rfl, hb, hg, -⟩
  · cases e
  · have e : g = k := by injection e
    subst e
    rcases hk with rfl | hk
    · rw [h.row] at hg
      simp at hg
    · rcases h.own.2 with ⟨rfl, -⟩ | ⟨g2, cap2, cur2, rfl, hb2, hg2, -⟩
      · cases hk
      · have e2 : g2 = g := by injection hk
        subst e2
        rw [hg2] at hg
        simp at hg
/-- The list beside a Writer's call. -/
theorem own_keepW {w w' : World} {R : Nat} {bs : List Nat} {u u' : Value} {B n : Nat} {v : Value} {xs : List Value} (ho : w.ownsRow B 47 3 v n xs) (h : Wtr w R bs u) (f : FrW R u u' w w') : w'.ownsRow B 47 3 v n xs := by
  have hno := h.notOp ho
  refine ⟨ho.1, ?_⟩
  rcases ho.2 with e | ⟨g, cap, cur, rfl, hb, hg, hn⟩
  · exact .inl e
  · exact .inr ⟨g, cap, cur, rfl, hb, f.fr.row hg (fun hs => hno g hs rfl), hn⟩
/-- A Writer beside the list's growth. -/
theorem Wtr.keepL {w w' : World} {R : Nat} {bs : List Nat} {u : Value} (h : Wtr w R bs u) {B n : Nat} {v : Value} {xs : List Value} (ho : w.ownsRow B 47 3 v n xs) (g : w.grownBy w' v.ownBlock) : Wtr w' R bs u := by
  have hno := h.notOp ho
  exact h.keep (S := fun k => v.ownBlock = some k) ⟨g.os, g.tape, g.output, g.size, fun k hk hs => g.block k hk (fun e => hs e.symm)⟩ (fun k hk e => hno k hk e)
end Go.Proofs.Ytfncmgojeaeihaa
