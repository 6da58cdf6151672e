/-
  Chapter 11's arguments, opened: a struct of three ints, an array of 16 bytes, a slice of pairs of ints.
-/
import Derived.Test.YtikgpohoggpldaaOpen
import Derived.Test.YtikgpohoggpldaaInf
import Derived.Deep.SlicePairs
import Derived.Lib.SmallJoins
namespace Go.Proofs.Ytikgpohoggpldaa
open Go.ChangeShapes Go.WideShapes Go.ChangeAt Go.RowKit Go.Joins Go.Deep

section
variable {H : Type} {enc : TypeId × Value → H} {P : Program} {W : World} {base : Nat} {spare : Nat → Bool} {held : Bool}

theorem open_ints3 {r : Reach} {b0 : Nat} {t i : TypeId} {f0 f1 f2 : Field} {v : Value} {d : DataW H} {p : List MemPlace} (hs : P.underlying t = some (.struct #[f0, f1, f2])) (hone : oneCellFields P #[f0, f1, f2] = true) (hC : P.cellsOf t = 3) (hi : P.underlying i = some (.int .i64))
    (e0 : f0.type = i) (e1 : f1.type = i) (e2 : f2.type = i) (hv : Value.okWide P W r b0 t v) (h : DataW.Trod enc P W base spare held t v d p) :
    ∃ x y z : Int, v = .agg #[.int .i64 x, .int .i64 y, .int .i64 z] ∧ (Lit.int .i64 x).wf = true ∧ (Lit.int .i64 y).wf = true ∧ (Lit.int .i64 z).wf = true := by
  obtain ⟨v0, v1, v2, y0, y1, y2, n, rfl, -, -, h0, h1, h2⟩ := open_agg3 hs hone hC hv h
  rw [e0] at h0; rw [e1] at h1; rw [e2] at h2
  obtain ⟨x, hx, -, w0⟩ := DataW.trod_int hi h0
  obtain ⟨y, hy, -, w1⟩ := DataW.trod_int hi h1
  obtain ⟨z, hz, -, w2⟩ := DataW.trod_int hi h2
  simp only [List.cons.injEq, and_true] at hx hy hz
  subst hx hy hz
  exact ⟨x, y, z, rfl, w0, w1, w2⟩

theorem rdP_of_cells {x : Addr} {n : Nat} {V0 V1 : Nat → Int} (h : ∀ i, i < n → W.cell? (x.add (i * 2)) = some (.int .i64 (V0 i)) ∧ W.cell? (x.add (i * 2 + 1)) = some (.int .i64 (V1 i))) : RdP W (some x) ((List.range n).map fun i => (V0 i, V1 i)) := by
  intro j u hu
  have hj : j < n := by
    have := (List.getElem?_eq_some_iff.1 hu).1
    simpa using this
  obtain ⟨b, o, sp⟩ := x
  have h0 := (h 0 (by omega)).1
  have hs : sp = none := by simpa [Addr.add] using World.cell?_spot h0
  subst hs
  refine ⟨b, o, rfl, ?_⟩
  have := h j hj
  simp [hj] at hu
  subst hu
  have ea : ∀ m, (⟨b, o, none⟩ : Addr).add m = ⟨b, o + m, none⟩ := by intro m; unfold Addr.add; split <;> simp_all
  rw [ea, ea] at this
  exact ⟨this.1, this.2⟩

theorem open_pairs {t e i : TypeId} {f0 f1 : Field} (ht : P.underlying t = some (.slice e)) (he : P.underlying e = some (.struct #[f0, f1])) (ce : P.cellsOf e = 2) (ci : P.cellsOf i = 1) (hi : P.underlying i = some (.int .i64))
    (q0 : (f0.type, f0.offset) = (i, 0)) (q1 : (f1.type, f1.offset) = (i, 1)) {A : Option Addr} {n c : Nat} {d : DataW H} {p : List MemPlace} (h : DataW.Trod enc P W base spare held t (.slice A n c) d p) :
    ∃ l : List (Int × Int), n = l.length ∧ n ≤ c ∧ c ≤ maxLen ∧ RdP W A l ∧ ∀ x ∈ l, (Lit.int .i64 x.1).wf = true ∧ (Lit.int .i64 x.2).wf = true := by
  obtain ⟨fuel, hf⟩ := h
  simp only [Prod.mk.injEq] at q0 q1
  rcases open_slice_pairs ht he ce q0.2 q1.2 (q0.1 ▸ ci) (q1.1 ▸ ci) hf with ⟨hcs, -⟩ | ⟨a, len, cap, m, k, V0, V1, D0, D1, P0, P1, hcs, -, hl, hm, hmm, -, hall⟩
  · simp [Value.cells] at hcs
    obtain ⟨rfl, rfl, rfl⟩ := hcs
    exact ⟨[], rfl, Nat.le_refl _, Nat.zero_le _, RdP.nil _ _, fun z hz => by cases hz⟩
  · simp [Value.cells] at hcs
    obtain ⟨rfl, rfl, rfl⟩ := hcs
    have hlm : n ≤ m := by rw [hmm]; split <;> omega
    have each : ∀ j, j < n → ∃ q : Int × Int, W.cell? (a.add (j * 2)) = some (.int .i64 q.1) ∧ W.cell? (a.add (j * 2 + 1)) = some (.int .i64 q.2) ∧ (Lit.int .i64 q.1).wf = true ∧ (Lit.int .i64 q.2).wf = true := by
      intro j hj
      obtain ⟨h1, h2, h3, h4⟩ := hall j (by omega)
      rw [q0.1] at h3; rw [q1.1] at h4
      obtain ⟨x, hx, -, w0⟩ := DataW.trod_int hi h3
      obtain ⟨y, hy, -, w1⟩ := DataW.trod_int hi h4
      simp only [List.cons.injEq, and_true] at hx hy
      rw [hx] at h1; rw [hy] at h2
      exact ⟨(x, y), h1, h2, w0, w1⟩
    obtain ⟨q, hq⟩ := choose_lt each
    refine ⟨(List.range n).map fun j => ((q j).1, (q j).2), by simp, hl, hm, rdP_of_cells fun j hj => ⟨(hq j hj).1, (hq j hj).2.1⟩, ?_⟩
    intro x hx
    simp only [List.mem_map, List.mem_range] at hx
    obtain ⟨j, hj, rfl⟩ := hx
    exact ⟨(hq j hj).2.2.1, (hq j hj).2.2.2⟩
end

theorem sum16_of {zs : List Int} (h : zs.length = 16) : ∃ s : Nat → Int, Value.agg (zs.map (Value.int .u8)).toArray = .agg #[.int .u8 (s 0), .int .u8 (s 1), .int .u8 (s 2), .int .u8 (s 3), .int .u8 (s 4), .int .u8 (s 5), .int .u8 (s 6), .int .u8 (s 7), .int .u8 (s 8), .int .u8 (s 9), .int .u8 (s 10), .int .u8 (s 11), .int .u8 (s 12), .int .u8 (s 13), .int .u8 (s 14), .int .u8 (s 15)] ∧ ∀ i, i < 16 → s i = zs.getD i 0 := by
  match zs, h with
  | [x0, x1, x2, x3, x4, x5, x6, x7, x8, x9, x10, x11, x12, x13, x14, x15], _ => exact ⟨fun i => [x0, x1, x2, x3, x4, x5, x6, x7, x8, x9, x10, x11, x12, x13, x14, x15].getD i 0, rfl, fun i _ => rfl⟩
theorem u8_bounds {a : Int} (h : (Lit.int .u8 a).wf = true) : 0 ≤ a ∧ a ≤ 255 := by
  simp only [Lit.wf, IntKind.min, IntKind.max, IntKind.signed, IntKind.bits, Bool.and_eq_true, decide_eq_true_eq] at h
  simp at h
  omega
end Go.Proofs.Ytikgpohoggpldaa
