/-
  A struct of two ints and a slice of ints that came in, opened; the table of fixed coefficients.
-/
import Derived.Test.YtghnjgemjiekgaaDoorOpen
import Derived.Test.YtghnjgemjiekgaaDoorFixed
import Derived.Lib.SmallJoins
import Derived.Deep.SlicePairs
import Derived.LaidMore
import Derived.Stop.Joined
import Derived.Lib.LaidTab
namespace Go.Proofs.YtghnjgemjiekgaaDoor
open Go.ChangeShapes Go.WideShapes Go.ChangeAt Go.RowKit Go.Joins Go.Deep

section
variable {H : Type} {enc : TypeId × Value → H} {P : Program} {W : World} {base : Nat} {spare : Nat → Bool} {held : Bool}
theorem open_linear {r : Reach} {b0 : Nat} {t i s : TypeId} {f0 f1 f2 : Field} {v : Value} {d : DataW H} {p : List MemPlace} (hs : P.underlying t = some (.struct #[f0, f1, f2])) (hone : oneCellFields P #[f0, f1, f2] = true) (hC : P.cellsOf t = 3) (hi : P.underlying i = some (.int .i64)) (hsl : P.underlying s = some (.slice i)) (hci : P.cellsOf i = 1)
    (e0 : f0.type = i) (e1 : f1.type = i) (e2 : f2.type = s) (hv : Value.okWide P W r b0 t v) (h : DataW.Trod enc P W base spare held t v d p) :
    ∃ (x y : Int) (l : List Int) (A : Option Addr) (c : Nat), v = .agg #[.int .i64 x, .int .i64 y, .slice A l.length c] ∧ l.length ≤ c ∧ c ≤ maxLen ∧ Rd W A (zv l) ∧ (Lit.int .i64 x).wf = true ∧ (Lit.int .i64 y).wf = true ∧ (∀ z ∈ l, (Lit.int .i64 z).wf = true) ∧ (A = none → l.length = 0 ∧ c = 0) := by
  obtain ⟨v0, v1, v2, y0, y1, y2, n, rfl, -, -, h0, h1, h2⟩ := open_agg3 hs hone hC hv h
  rw [e0] at h0; rw [e1] at h1; rw [e2] at h2
  obtain ⟨x, hx, -, w0⟩ := DataW.trod_int hi h0
  obtain ⟨y, hy, -, w1⟩ := DataW.trod_int hi h1
  simp only [List.cons.injEq, and_true] at hx hy
  subst hx hy
  have key : ∃ A m c, v2 = .slice A m c := by
    rcases DataW.trod_slice hsl h2 with ⟨e, -⟩ | ⟨a, len, cap, _, _, _, -, e, -⟩
    · simp only [List.cons.injEq, and_true] at e; exact ⟨_, _, _, e⟩
    · simp only [List.cons.injEq, and_true] at e; exact ⟨_, _, _, e⟩
  obtain ⟨A, m, c, rfl⟩ := key
  have hT : DataW.Trod enc P W base spare held s (.slice A m c) y2.1 y2.2 := ⟨_, h2⟩
  obtain ⟨l, rfl, hlc, hcm, hr, hw⟩ := open_int_list hsl hi hci hT
  exact ⟨x, y, l, A, c, rfl, hlc, hcm, hr, w0, w1, hw, open_none hsl hi hci hT⟩

/-- An array of arrays of integers that reads as a table holds the table's numbers. -/
theorem cells_of_tab2 {fuel : Nat} {t e e2 : TypeId} {n m : Nat} {k : IntKind} {cs : List Value} {rows : List (List Int)} {q : List MemPlace} {spare : Nat → Bool}
    (ht : P.underlying t = some (.array n e)) (he : P.underlying e = some (.array m e2)) (he2 : P.underlying e2 = some (.int k)) (hce : P.cellsOf e = m) (hce2 : P.cellsOf e2 = 1)
    (h : DataW.trod enc P W base spare held fuel t cs = some (.agg (rows.map fun r => Go.Lib.tabData k r), q)) :
    ∀ i, i < n → (cs.drop (i * m)).take m = (rows.getD i []).map fun z => Value.int k z := by
  intro i hi
  obtain ⟨xs, f, -, hx, hl, hxl, hall⟩ := DataW.trod_array ht h
  have h1 := hall i hi
  rw [hce] at h1
  injection hx with hx1 hx2
  injection hx1 with hx1
  have hil : i < xs.length := by omega
  rw [List.getElem?_eq_getElem hil] at h1
  have h2 : xs[i].1 = Go.Lib.tabData k (rows.getD i []) := by
    have h3 : (xs.map (·.1))[i]? = some xs[i].1 := by simp [hil]
    rw [← hx1, List.getElem?_map] at h3
    rw [List.getD_eq_getElem?_getD]
    cases hr : rows[i]? with
    | none => rw [hr] at h3; simp at h3
    | some r => rw [hr] at h3; simp at h3; rw [← h3]; rfl
  have h4 : xs[i] = (Go.Lib.tabData k (rows.getD i []), xs[i].2) := by rw [← h2]
  rw [h4] at h1
  exact Go.Lib.cells_of_tab he he2 hce2 hce h1
end

def laidL : List (String × DataW Unit) := [("jetsam/predict.fixed", Rows.laid_jetsam_predict_fixed)]
theorem gFix : Tryd.prog.globalNamed "jetsam/predict.fixed" = some 0 := by kernel_rfl
theorem tFix : (Tryd.prog.globals[0]?).map (·.type) = some 50 := by kernel_rfl
/-- The door's own heap meets the condition. -/
theorem door_met (os : Os) (args : Array Value) : laidMetH Tryd.prog laidL ((World.doorLaid Tryd.prog 14 os).forCall (fun _ _ => 0) ⟨#[], args, []⟩).memory :=
  laidMetH_of_parts3 (fuel := 8) (laidMet_of_run' 8 (by kernel_rfl) (by kernel_rfl)) (by kernel_rfl) (by kernel_rfl)
theorem of_laid {W : World} (h : laidMetH Tryd.prog laidL W) : FixAt W := by
  rw [MakeChecks.laidMetH_plain _ _ _ (by kernel_rfl)] at h
  obtain ⟨ps, ⟨g', t', cs, fuel, p, q, hg', ht', hvar, hd, _, _⟩, _⟩ := h
  obtain rfl := Option.some.inj (gFix.symm.trans hg')
  obtain rfl := Option.some.inj (tFix.symm.trans ht')
  have key := cells_of_tab2 (rows := fixL) Tryd.underlying50 Tryd.underlying49 Tryd.underlying3 (by kernel_rfl) (by kernel_rfl) hd
  intro i hi j hj
  have h1 := key i hi
  have h2 := World.var?_cell hg' hvar (i * 4 + j)
  rw [h2]
  have h3 : ((cs.toList.drop (i * 4)).take 4)[j]? = cs[i * 4 + j]? := by rw [List.getElem?_take, if_pos hj, List.getElem?_drop, Array.getElem?_toList]
  rw [h1, List.getElem?_map] at h3
  have h4 : (fixL.getD i []).length = 4 := by
    match i, hi with
    | 0, _ => rfl
    | 1, _ => rfl
    | 2, _ => rfl
    | 3, _ => rfl
    | 4, _ => rfl
    | i + 5, h => omega
  generalize fixL.getD i [] = r at *
  rw [List.getElem?_eq_getElem (by omega)] at h3
  rw [← h3, List.getD_eq_getElem?_getD, List.getElem?_eq_getElem (show j < r.length by omega)]
  rfl
end Go.Proofs.YtghnjgemjiekgaaDoor
