/-
  An argument of type [][]int, opened, with the bound that its bulk gives.
-/
import Derived.Test.YtibhhebfenkeaaaDoorOpenSs
import Derived.Test.YtibhhebfenkeaaaDoorByt04
namespace Go.Proofs.YtibhhebfenkeaaaDoor
open Go.ChangeShapes Go.WideShapes Go.ChangeAt Go.RowKit Go.Deep

theorem bulk_pos {H : Type} (d : DataW H) : 1 ≤ Rows.uptoBulk d := by
  cases d with
  | lit l => cases l <;> simp [Rows.uptoBulk]
  | _ => simp [Rows.uptoBulk]
theorem bulk_len {H : Type} : ∀ l : List (DataW H), l.length ≤ Rows.uptoBulkAll l
  | [] => by simp [Rows.uptoBulkAll]
  | x :: r => by have := bulk_pos x; have := bulk_len r; simp only [Rows.uptoBulkAll, List.length_cons]; omega
theorem bulk_mem {H : Type} {d : DataW H} : ∀ {l : List (DataW H)}, d ∈ l → Rows.uptoBulk d ≤ Rows.uptoBulkAll l
  | x :: r, h => by
    simp only [Rows.uptoBulkAll]
    rcases List.mem_cons.1 h with rfl | h
    · omega
    · have := bulk_mem h; omega
theorem numS_bulk {H : Type} {enc : TypeId × Value → H} {P : Program} {W : World} {base : Nat} {spare : Nat → Bool} {held : Bool} {k : IntKind} {e i : TypeId} (he : P.underlying e = some (.slice i)) (ci : P.cellsOf i = 1) {fuel : Nat} {v : Value} {x : DataW H × List MemPlace} (h : DataW.trod enc P W base spare held fuel e [v] = some x) {l : List Int} (hN : NumS W k v l) : l.length ≤ Rows.uptoBulk x.1 := by
  obtain ⟨B, c, e1, -⟩ := hN
  rcases open_slice1 he ci h with ⟨hcs, -⟩ | ⟨a, len, cap, m, n, V, D, Pl, hcs, -, -, -, -, hx, -⟩
  · simp at hcs
    rw [hcs] at e1
    injection e1 with e2 e3 e4
    omega
  · simp at hcs
    rw [hcs] at e1
    injection e1 with e2 e3 e4
    rw [hx]
    have h1 := bulk_len ((List.range len).map D)
    simp only [List.length_map, List.length_range] at h1
    simp only [Rows.uptoBulk]
    omega
theorem open_zz {H : Type} {enc : TypeId × Value → H} {P : Program} {W : World} {base : Nat} {spare : Nat → Bool} {held : Bool} {t e i : TypeId} (ht : P.underlying t = some (.slice e)) (he : P.underlying e = some (.slice i)) (hi : P.underlying i = some (.int .i64)) (ce : P.cellsOf e = 1) (ci : P.cellsOf i = 1)
    {A : Option Addr} {n c : Nat} {d : DataW H} {p : List MemPlace} (h : DataW.Trod enc P W base spare held t (.slice A n c) d p) :
    ∃ ls : List (List Int), n = ls.length ∧ ZZ W A ls ∧ ∀ x ∈ ls, x.length ≤ Rows.uptoBulk d := by
  obtain ⟨fuel, hf⟩ := h
  rcases open_slice1 ht ce hf with ⟨hcs, -⟩ | ⟨a, len, cap, m, nn, V, D, Pl, hcs, hb, hl, hm, hmm, hd, hx⟩
  · simp [Value.cells] at hcs
    obtain ⟨rfl, rfl, rfl⟩ := hcs
    exact ⟨[], rfl, ⟨[], rfl, Rd.nil _ _, fun j x y hx => by simp at hx⟩, fun x hx => by cases hx⟩
  · simp [Value.cells] at hcs
    obtain ⟨rfl, rfl, rfl⟩ := hcs
    have hlm : n ≤ m := by rw [hmm]; split <;> omega
    obtain ⟨L, hL⟩ := choose_lt (α := List Int) (p := fun j l => NumS W .i64 (V j) l ∧ l.length ≤ Rows.uptoBulk (D j)) (n := n) (fun j hj => by
      obtain ⟨l, hl⟩ := open_numS he hi ci (hx j (by omega)).2
      exact ⟨l, hl, numS_bulk he ci (hx j (by omega)).2 hl⟩)
    have hd' : d = .slice ((List.range n).map D) ((List.range (m - n)).map fun j => D (n + j)) := congrArg Prod.fst hd
    refine ⟨(List.range n).map L, by simp, ⟨(List.range n).map V, by simp, rd_of_cells fun j hj => ?_, fun j x y h1 h2 => ?_⟩, fun x hx => ?_⟩
    · have hj' : j < n := by simpa using hj
      rw [(hx j (by omega)).1, List.getElem?_map, List.getElem?_range hj']; rfl
    · have hj' : j < n := by have := (List.getElem?_eq_some_iff.1 h1).1; simpa using this
      rw [List.getElem?_map, List.getElem?_range hj'] at h1 h2
      simp at h1 h2
      subst h1 h2
      obtain ⟨B, c2, e1, h3, -, hr, -⟩ := (hL j hj').1
      exact ⟨B, c2, e1, h3, hr⟩
    · simp only [List.mem_map, List.mem_range] at hx
      obtain ⟨j, hj, rfl⟩ := hx
      have h1 := (hL j hj).2
      have h2 := bulk_mem (d := D j) (l := (List.range n).map D) (List.mem_map.2 ⟨j, List.mem_range.2 hj, rfl⟩)
      rw [hd']
      simp only [Rows.uptoBulk]
      omega
end Go.Proofs.YtibhhebfenkeaaaDoor
