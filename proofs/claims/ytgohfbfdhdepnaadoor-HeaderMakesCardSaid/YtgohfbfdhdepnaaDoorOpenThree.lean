/-
  A struct of three ints that came in, opened.
-/
import Derived.Test.YtgohfbfdhdepnaaDoorOpen
import Derived.Deep.SlicePairs
import Derived.Lib.SmallJoins
namespace Go.Proofs.YtgohfbfdhdepnaaDoor
open Go.ChangeShapes Go.WideShapes Go.ChangeAt Go.RowKit Go.Joins Go.Deep

section
variable {H : Type} {enc : TypeId × Value → H} {P : Program} {W : World} {base : Nat} {spare : Nat → Bool} {held : Bool}

theorem open_ints3 {r : Reach} {b0 : Nat} {t i : TypeId} {f0 f1 f2 : Field} {v : Value} {d : DataW H} {p : List MemPlace} (hs : P.underlying t = some (.struct #[f0, f1, f2])) (hone : oneCellFields P #[f0, f1, f2] = true) (hC : P.cellsOf t = 3) (hi : P.underlying i = some (.int .i64))
    (e0 : f0.type = i) (e1 : f1.type = i) (e2 : f2.type = i) (hv : Value.okWide P W r b0 t v) (h : DataW.Trod enc P W base spare held t v d p) :
    ∃ x y z : Int, v = .agg #[.int .i64 x, .int .i64 y, .int .i64 z] ∧ (Lit.int .i64 x).wf = true ∧ (Lit.int .i64 y).wf = true ∧ (Lit.int .i64 z).wf = true := by
  obtain ⟨v0, v1, v2, y0, y1, y2, n, rfl, -, -, h0, h1, h2⟩ := open_agg3 hs hone hC hv h
  rw [e0] at h0; rw [e1] at h1; rw [e2] at h2
  obtain ⟨x, hx, -, w0⟩ := DataW.trod_int hi h0
  obtain ⟨y, hy, -, w1⟩ := DataW.trod_int hi h1
  obtain ⟨z, hz, -, w2⟩ := DataW.trod_int hi h2
  simp only [List.cons.injEq, and_true] at hx hy hz
  subst hx hy hz
  exact ⟨x, y, z, rfl, w0, w1, w2⟩

end
end Go.Proofs.YtgohfbfdhdepnaaDoor
