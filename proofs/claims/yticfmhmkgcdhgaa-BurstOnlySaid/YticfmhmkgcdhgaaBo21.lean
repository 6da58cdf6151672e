/-
  Rows of structs of three ints: what they read as; a slice of them that came in, opened.
-/
import Derived.Test.YticfmhmkgcdhgaaBo20
import Derived.Deep.Slices
import Derived.Deep.SlicePairs
import Derived.Deep.Strs
import Derived.Lib.SmallJoins
set_option linter.unusedSimpArgs false
set_option linter.unusedVariables false
namespace Go.Proofs.Yticfmhmkgcdhgaa
open Go.ChangeShapes Go.WideShapes Go.ChangeAt Go.RowKit Go.Joins Go.Deep

/-- Three numbers. -/
structure T3 where
  a : Int
  n : Int
  v : Int
instance : Inhabited T3 := ⟨⟨0, 0, 0⟩⟩
/-- A slice of structs of three ints reads as these. -/
def RdT (w : World) (A : Option Addr) (l : List T3) : Prop :=
  ∀ j x, l[j]? = some x → ∃ b o, A = some ⟨b, o, none⟩ ∧ w.cell? ⟨b, o + j * 3, none⟩ = some (.int .i64 x.a) ∧ w.cell? ⟨b, o + j * 3 + 1, none⟩ = some (.int .i64 x.n) ∧ w.cell? ⟨b, o + j * 3 + 2, none⟩ = some (.int .i64 x.v)
theorem RdT.below {w w' : World} {A : Option Addr} {l : List T3} (h : RdT w A l) (hb : Below w.heap.size w w') : RdT w' A l := by
  intro j x hx
  obtain ⟨b, o, rfl, h0, h1, h2⟩ := h j x hx
  exact ⟨b, o, rfl, (hb.cell (p := ⟨b, o + j * 3, none⟩) (cell_lt h0)).trans h0, (hb.cell (p := ⟨b, o + j * 3 + 1, none⟩) (cell_lt h1)).trans h1, (hb.cell (p := ⟨b, o + j * 3 + 2, none⟩) (cell_lt h2)).trans h2⟩
theorem RdT.nil (w : World) (A : Option Addr) : RdT w A [] := by intro j x h; simp at h

section
variable {H : Type} {enc : TypeId × Value → H} {P : Program} {W : World} {base : Nat} {spare : Nat → Bool} {held : Bool}
theorem rdT_of_cells {x : Addr} {n : Nat} {q : Nat → T3} (h : ∀ i, i < n → W.cell? (x.add (i * 3)) = some (.int .i64 (q i).a) ∧ W.cell? (x.add (i * 3 + 1)) = some (.int .i64 (q i).n) ∧ W.cell? (x.add (i * 3 + 2)) = some (.int .i64 (q i).v)) : RdT W (some x) ((List.range n).map q) := by
  intro j u hu
  have hj : j < n := by
    have := (List.getElem?_eq_some_iff.1 hu).1
    simpa using this
  obtain ⟨b, o, sp⟩ := x
  have h0 := (h 0 (by omega)).1
  have hs : sp = none := by simpa [Addr.add] using World.cell?_spot h0
  subst hs
  refine ⟨b, o, rfl, ?_⟩
  have := h j hj
  simp [hj] at hu
  subst hu
  have ea : ∀ m, (⟨b, o, none⟩ : Addr).add m = ⟨b, o + m, none⟩ := by intro m; unfold Addr.add; split <;> simp_all
  rw [ea, ea, ea] at this
  exact ⟨this.1, this.2.1, this.2.2⟩
theorem open_triples {t e i : TypeId} {f0 f1 f2 : Field} (ht : P.underlying t = some (.slice e)) (he : P.underlying e = some (.struct #[f0, f1, f2])) (ce : P.cellsOf e = 3) (ci : P.cellsOf i = 1) (hi : P.underlying i = some (.int .i64))
    (q0 : (f0.type, f0.offset) = (i, 0)) (q1 : (f1.type, f1.offset) = (i, 1)) (q2 : (f2.type, f2.offset) = (i, 2)) {A : Option Addr} {n c : Nat} {d : DataW H} {p : List MemPlace} (h : DataW.Trod enc P W base spare held t (.slice A n c) d p) :
    ∃ l : List T3, n = l.length ∧ n ≤ c ∧ c ≤ maxLen ∧ RdT W A l ∧ ∀ x ∈ l, (Lit.int .i64 x.a).wf = true ∧ (Lit.int .i64 x.n).wf = true ∧ (Lit.int .i64 x.v).wf = true := by
  obtain ⟨fuel, hf⟩ := h
  simp only [Prod.mk.injEq] at q0 q1 q2
  rcases open_slice ht hf with ⟨hcs, -⟩ | ⟨a, len, cap, m, k, D, Pl, hcs, hb, hl, hm, hmm, -, hx⟩
  · simp [Value.cells] at hcs
    obtain ⟨rfl, rfl, rfl⟩ := hcs
    exact ⟨[], rfl, Nat.le_refl _, Nat.zero_le _, RdT.nil _ _, fun z hz => by cases hz⟩
  · simp [Value.cells] at hcs
    obtain ⟨rfl, rfl, rfl⟩ := hcs
    have hlm : n ≤ m := by rw [hmm]; split <;> omega
    have each : ∀ j, j < n → ∃ q : T3, (W.cell? (a.add (j * 3)) = some (.int .i64 q.a) ∧ W.cell? (a.add (j * 3 + 1)) = some (.int .i64 q.n) ∧ W.cell? (a.add (j * 3 + 2)) = some (.int .i64 q.v)) ∧ (Lit.int .i64 q.a).wf = true ∧ (Lit.int .i64 q.n).wf = true ∧ (Lit.int .i64 q.v).wf = true := by
      intro j hj
      obtain ⟨cs', h1, h2⟩ := hx j (by omega)
      rw [ce] at h1
      obtain ⟨_, hlen, hcell⟩ := World.cells?_some h1
      obtain ⟨xs, k', hk, hxy, _, hxl, hf'⟩ := DataW.trod_struct he h2
      match xs, hxl, cs', hlen with
      | [y0, y1, y2], _, [v0, v1, v2], _ =>
        have g0 := hf' 0 f0 rfl
        have g1 := hf' 1 f1 rfl
        have g2 := hf' 2 f2 rfl
        simp [q0.1, q0.2, ci] at g0
        simp [q1.1, q1.2, ci] at g1
        simp [q2.1, q2.2, ci] at g2
        obtain ⟨x, hx0, -, w0⟩ := DataW.trod_int hi g0
        obtain ⟨y, hx1, -, w1⟩ := DataW.trod_int hi g1
        obtain ⟨z, hx2, -, w2⟩ := DataW.trod_int hi g2
        simp only [List.cons.injEq, and_true] at hx0 hx1 hx2
        subst hx0 hx1 hx2
        have e0 := hcell 0 (by omega)
        have e1 := hcell 1 (by omega)
        have e2 := hcell 2 (by omega)
        rw [add_add] at e0 e1 e2
        exact ⟨⟨x, y, z⟩, ⟨by simpa using e0, by simpa using e1, by simpa using e2⟩, w0, w1, w2⟩
    obtain ⟨q, hq⟩ := choose_lt each
    refine ⟨(List.range n).map q, by simp, hl, hm, rdT_of_cells fun j hj => (hq j hj).1, ?_⟩
    intro x hx
    simp only [List.mem_map, List.mem_range] at hx
    obtain ⟨j, hj, rfl⟩ := hx
    exact (hq j hj).2
end
end Go.Proofs.Yticfmhmkgcdhgaa
