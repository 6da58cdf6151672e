/-
  An argument of type [][]byte, opened as BZZ.
-/
import Derived.Test.YtibhhebfenkeaaaDoorOpenSs
import Derived.Test.YtibhhebfenkeaaaDoorDg04
namespace Go.Proofs.YtibhhebfenkeaaaDoor
open Go.ChangeShapes Go.WideShapes Go.ChangeAt Go.RowKit Go.Deep

theorem numS_bz {W : World} {v : Value} {l : List Int} (h : NumS W .u8 v l) : ∃ m, BZ W v m := by
  obtain ⟨B, c, rfl, hlc, -, hr, hn, hwf⟩ := h
  have e : bv (l.map fun z => UInt8.ofNat z.toNat) = l.map (Value.int .u8) := by
    unfold bv
    rw [List.map_map]
    refine List.map_congr_left fun z hz => ?_
    have hw := hwf z hz
    simp only [Lit.wf, IntKind.min, IntKind.max, IntKind.signed, IntKind.bits, Bool.and_eq_true, decide_eq_true_eq] at hw
    simp at hw
    show Value.int .u8 _ = _
    congr 1
    rw [UInt8.toNat_ofNat']
    omega
  exact ⟨l.map (fun z => UInt8.ofNat z.toNat), B, c, by simp, by simpa using hlc, by rw [e]; exact hr, fun e => (hn e).2⟩
theorem open_bzz {H : Type} {enc : TypeId × Value → H} {P : Program} {W : World} {base : Nat} {spare : Nat → Bool} {held : Bool} {t e i : TypeId} (ht : P.underlying t = some (.slice e)) (he : P.underlying e = some (.slice i)) (hi : P.underlying i = some (.int .u8)) (ce : P.cellsOf e = 1) (ci : P.cellsOf i = 1)
    {A : Option Addr} {n c : Nat} {d : DataW H} {p : List MemPlace} (h : DataW.Trod enc P W base spare held t (.slice A n c) d p) :
    ∃ ls : List (List UInt8), n = ls.length ∧ n ≤ c ∧ c ≤ maxLen ∧ BZZ W A ls := by
  obtain ⟨ls, vs, hn, hc, hm, hvl, hr, -, hx⟩ := open_slices ht he hi ce ci h
  have key : ∀ j, j < vs.length → ∃ m, ∀ x, vs[j]? = some x → BZ W x m := fun j hj => by
    obtain ⟨m, hm⟩ := numS_bz (hx j vs[j] ls[j] (List.getElem?_eq_getElem hj) (List.getElem?_eq_getElem (by omega)))
    exact ⟨m, fun x hx => by rw [List.getElem?_eq_getElem hj] at hx; cases hx; exact hm⟩
  obtain ⟨L, hL⟩ := choose_lt (α := List UInt8) (p := fun j m => ∀ x, vs[j]? = some x → BZ W x m) (n := vs.length) key
  refine ⟨(List.range n).map L, by simp, hc, hm, vs, by simp [hvl, hn], hr, fun j x y h1 h2 => ?_⟩
  have hj : j < vs.length := (List.getElem?_eq_some_iff.1 h1).1
  rw [List.getElem?_map, List.getElem?_range (by omega)] at h2
  simp at h2
  subst h2
  exact hL j hj x h1
end Go.Proofs.YtibhhebfenkeaaaDoor
