/-
  An argument that is a slice of slices of numbers, opened.
-/
import Derived.Test.YtibhhebfenkeaaaDoorOpen
namespace Go.Proofs.YtibhhebfenkeaaaDoor
open Go.ChangeShapes Go.WideShapes Go.ChangeAt Go.RowKit Go.Deep

section
variable {H : Type} {enc : TypeId × Value → H} {P : Program} {W : World} {base : Nat} {spare : Nat → Bool} {held : Bool}

/-- A slice of numbers of kind k that reads as l. -/
def NumS (W : World) (k : IntKind) (x : Value) (l : List Int) : Prop :=
  ∃ B c, x = .slice B l.length c ∧ l.length ≤ c ∧ c ≤ maxLen ∧ Rd W B (l.map (Value.int k)) ∧ (B = none → l.length = 0 ∧ c = 0) ∧ ∀ z ∈ l, (Lit.int k z).wf = true
theorem open_numS {k : IntKind} {e i : TypeId} (he : P.underlying e = some (.slice i)) (hi : P.underlying i = some (.int k)) (ci : P.cellsOf i = 1) {fuel : Nat} {v : Value} {x : DataW H × List MemPlace} (h : DataW.trod enc P W base spare held fuel e [v] = some x) :
    ∃ l, NumS W k v l := by
  have hv : ∃ A n c, v = .slice A n c := by
    rcases open_slice1 he ci h with ⟨hcs, _⟩ | ⟨a, len, cap, m, n, V, D, Pl, hcs, _⟩
    · simp at hcs; exact ⟨_, _, _, hcs⟩
    · simp at hcs; exact ⟨_, _, _, hcs⟩
  obtain ⟨A, n, c, rfl⟩ := hv
  have hT : DataW.Trod enc P W base spare held e (.slice A n c) x.1 x.2 := ⟨fuel, by simpa [Value.cells] using h⟩
  obtain ⟨l, rfl, h2, h3, h4, h5⟩ := open_int_list he hi ci hT
  have hn := open_none he hi ci hT
  exact ⟨l, A, c, rfl, h2, h3, h4, hn, h5⟩
theorem open_slices {k : IntKind} {t e i : TypeId} (ht : P.underlying t = some (.slice e)) (he : P.underlying e = some (.slice i)) (hi : P.underlying i = some (.int k)) (ce : P.cellsOf e = 1) (ci : P.cellsOf i = 1)
    {A : Option Addr} {n c : Nat} {d : DataW H} {p : List MemPlace} (h : DataW.Trod enc P W base spare held t (.slice A n c) d p) :
    ∃ (ls : List (List Int)) (vs : List Value), n = ls.length ∧ n ≤ c ∧ c ≤ maxLen ∧ vs.length = ls.length ∧ Rd W A vs ∧ (A = none → n = 0 ∧ c = 0) ∧ ∀ (j : Nat) (x : Value) (y : List Int), vs[j]? = some x → ls[j]? = some y → NumS W k x y := by
  obtain ⟨fuel, hf⟩ := h
  rcases open_slice1 ht ce hf with ⟨hcs, -⟩ | ⟨a, len, cap, m, nn, V, D, Pl, hcs, hb, hl, hm, hmm, -, hx⟩
  · simp [Value.cells] at hcs
    obtain ⟨rfl, rfl, rfl⟩ := hcs
    exact ⟨[], [], rfl, Nat.le_refl _, Nat.zero_le _, rfl, Rd.nil _ _, fun _ => ⟨rfl, rfl⟩, fun j x y hx => by simp at hx⟩
  · simp [Value.cells] at hcs
    obtain ⟨rfl, rfl, rfl⟩ := hcs
    have hlm : n ≤ m := by rw [hmm]; split <;> omega
    obtain ⟨L, hL⟩ := choose_lt (α := List Int) (p := fun j l => NumS W k (V j) l) (n := n) (fun j hj => open_numS he hi ci (hx j (by omega)).2)
    refine ⟨(List.range n).map L, (List.range n).map V, by simp, hl, hm, by simp, rd_of_cells fun j hj => ?_, (fun e => by cases e), fun j x y h1 h2 => ?_⟩
    · have hj' : j < n := by simpa using hj
      rw [(hx j (by omega)).1, List.getElem?_map, List.getElem?_range hj']; rfl
    · have hj' : j < n := by have := (List.getElem?_eq_some_iff.1 h1).1; simpa using this
      rw [List.getElem?_map, List.getElem?_range hj'] at h1 h2
      simp at h1 h2
      subst h1 h2
      exact hL j hj'
end
end Go.Proofs.YtibhhebfenkeaaaDoor
