/-
  An argument of type [2][]int, opened.
-/
import Derived.Test.YtibhhebfenkeaaaDoorOpenSs
namespace Go.Proofs.YtibhhebfenkeaaaDoor
open Go.ChangeShapes Go.WideShapes Go.ChangeAt Go.RowKit Go.Deep

theorem open_two {H : Type} {enc : TypeId × Value → H} {P : Program} {W : World} {base : Nat} {spare : Nat → Bool} {held : Bool} {k : IntKind} {t e i : TypeId} (ht : P.underlying t = some (.array 2 e)) (he : P.underlying e = some (.slice i)) (hi : P.underlying i = some (.int k)) (hc : P.cellsOf e = 1) (ci : P.cellsOf i = 1) (hct : P.cellsOf t = 2)
    {v : Value} (hv : ∃ cs, v = .agg cs ∧ cs.size = P.cellsOf t) {d : DataW H} {p : List MemPlace} (h : DataW.Trod enc P W base spare held t v d p) :
    ∃ (x y : Value) (l r : List Int), v = .agg #[x, y] ∧ NumS W k x l ∧ NumS W k y r := by
  obtain ⟨cs, rfl, hsz⟩ := hv
  obtain ⟨fuel, hf⟩ := h
  obtain ⟨xs, m, _, _, hl, hxl, hx⟩ := DataW.trod_array ht hf
  have key : ∀ j, j < 2 → ∃ (x : Value) (l : List Int), cs[j]? = some x ∧ NumS W k x l := by
    intro j hj
    have hj' : j < cs.size := by omega
    have h1 := hx j hj
    rw [hc, Nat.mul_one] at h1
    have e1 : (((Value.agg cs).cells.toList.drop j).take 1) = [cs[j]] := by
      show ((cs.toList.drop j).take 1) = _
      rw [List.drop_eq_getElem_cons (by simpa using hj')]
      simp
    rw [e1, List.getElem?_eq_getElem (by omega)] at h1
    obtain ⟨l, hl⟩ := open_numS he hi ci h1
    exact ⟨cs[j], l, Array.getElem?_eq_getElem hj', hl⟩
  obtain ⟨x, l, hx0, h0⟩ := key 0 (by omega)
  obtain ⟨y, r, hy0, h1⟩ := key 1 (by omega)
  refine ⟨x, y, l, r, ?_, h0, h1⟩
  congr 1
  refine Array.ext (by simp; omega) fun j h1 h2 => ?_
  have : j = 0 ∨ j = 1 := by simp at h2; omega
  rcases this with rfl | rfl
  · rw [Array.getElem?_eq_getElem h1] at hx0; exact Option.some.inj hx0
  · rw [Array.getElem?_eq_getElem h1] at hy0; exact Option.some.inj hy0
end Go.Proofs.YtibhhebfenkeaaaDoor
