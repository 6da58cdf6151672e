/-
  The arguments of a law, opened: what the walks are told of them.
-/
import Derived.Test.YticfmhmkgcdhgaaBo1
import Derived.ProofKit
import Derived.OpenShut
import Derived.ShutString
import Derived.ChangeOld
import Derived.Deep.Slices
set_option linter.unusedSimpArgs false
set_option linter.unusedVariables false
namespace Go.Proofs.Yticfmhmkgcdhgaa
open Go.ChangeShapes Go.WideShapes Go.ChangeAt Go.RowKit

section
variable {H : Type} {enc : TypeId × Value → H} {P : Program} {W : World} {base : Nat} {spare : Nat → Bool} {held : Bool}

theorem add_block (x : Addr) (i : Nat) : (x.add i).block = x.block := by unfold Addr.add; split <;> rfl

/-- Cells from an address on, read as values. -/
theorem rd_of_cells {x : Addr} {xs : List Value} (h : ∀ i, i < xs.length → W.cell? (x.add i) = xs[i]?) : Rd W (some x) xs := by
  intro j u hu
  have hj : j < xs.length := (List.getElem?_eq_some_iff.1 hu).1
  obtain ⟨b, o, sp⟩ := x
  have h0 := h 0 (by omega)
  rw [List.getElem?_eq_getElem (by omega)] at h0
  have hs : sp = none := by simpa [Addr.add] using World.cell?_spot h0
  subst hs
  refine ⟨b, o, rfl, ?_⟩
  have := h j hj
  rw [hu] at this
  rw [← this]
  unfold Addr.add
  split <;> simp_all

theorem open_int_list {k : IntKind} {t e : TypeId} (ht : P.underlying t = some (.slice e)) (he : P.underlying e = some (.int k)) (hc : P.cellsOf e = 1)
    {A : Option Addr} {n c : Nat} {d : DataW H} {p : List MemPlace} (h : DataW.Trod enc P W base spare held t (.slice A n c) d p) :
    ∃ l : List Int, n = l.length ∧ n ≤ c ∧ c ≤ maxLen ∧ Rd W A (l.map (Value.int k)) ∧ ∀ z ∈ l, (Lit.int k z).wf = true := by
  obtain ⟨fuel, hf⟩ := h
  rcases open_ints ht he hc hf with ⟨hcs, _⟩ | ⟨x, l, cc, zs, hcs, _, hl, hm, hz, _, hcell, hwz⟩
  · simp [Value.cells] at hcs
    obtain ⟨rfl, rfl, rfl⟩ := hcs
    exact ⟨[], rfl, Nat.le_refl _, Nat.zero_le _, Rd.nil _ _, fun z hz => by cases hz⟩
  · simp [Value.cells] at hcs
    obtain ⟨rfl, rfl, rfl⟩ := hcs
    have hlz : n ≤ zs.length := by rw [hz]; split <;> omega
    refine ⟨zs.take n, by rw [List.length_take]; omega, hl, hm, ?_, fun z hz => hwz z (List.mem_of_mem_take hz)⟩
    refine rd_of_cells fun i hi => ?_
    have hi' : i < n := by simp at hi; omega
    rw [hcell i (by omega), List.getElem?_map, List.getElem?_take, if_pos hi', List.getElem?_eq_getElem (by omega)]
    simp [List.getD, show i < zs.length by omega]

theorem open_bytes {t e : TypeId} (ht : P.underlying t = some (.slice e)) (he : P.underlying e = some (.int .u8)) (hc : P.cellsOf e = 1)
    {A : Option Addr} {n c : Nat} {d : DataW H} {p : List MemPlace} (h : DataW.Trod enc P W base spare held t (.slice A n c) d p) :
    ∃ l : List UInt8, n = l.length ∧ n ≤ c ∧ c ≤ maxLen ∧ Rd W A (bv l) := by
  obtain ⟨l, h1, h2, h3, h4, h5⟩ := open_int_list ht he hc h
  refine ⟨l.map fun z => UInt8.ofNat z.toNat, by simpa using h1, h2, h3, ?_⟩
  have : bv (l.map fun z => UInt8.ofNat z.toNat) = l.map (Value.int .u8) := by
    unfold bv
    rw [List.map_map]
    refine List.map_congr_left fun z hz => ?_
    have hw := h5 z hz
    simp only [Lit.wf, IntKind.min, IntKind.max, IntKind.signed, IntKind.bits, Bool.and_eq_true, decide_eq_true_eq] at hw
    simp at hw
    show Value.int .u8 _ = Value.int .u8 _
    congr 1
    rw [UInt8.toNat_ofNat']
    omega
  rw [this]
  exact h4

/-- A nil slice has nothing. -/
theorem open_none {k : IntKind} {t e : TypeId} (ht : P.underlying t = some (.slice e)) (he : P.underlying e = some (.int k)) (hc : P.cellsOf e = 1)
    {A : Option Addr} {n c : Nat} {d : DataW H} {p : List MemPlace} (h : DataW.Trod enc P W base spare held t (.slice A n c) d p) : A = none → n = 0 ∧ c = 0 := by
  rintro rfl
  obtain ⟨fuel, hf⟩ := h
  rcases open_ints ht he hc hf with ⟨hcs, _⟩ | ⟨x, l, cc, zs, hcs, _⟩
  · simp [Value.cells] at hcs
    exact hcs
  · simp [Value.cells] at hcs

theorem okWide_agg {t : TypeId} {n : Nat} {e : TypeId} {w : World} {r : Reach} {b : Nat} {v : Value} (ht : P.underlying t = some (.array n e)) (h : Value.okWide P w r b t v) : ∃ cs, v = .agg cs ∧ cs.size = P.cellsOf t := by
  simp only [Value.okWide, ht] at h
  obtain ⟨cs, h1, h2, _⟩ := h
  exact ⟨cs, h1, h2⟩
/-- An array of whole numbers. -/
theorem open_int_arr {k : IntKind} {t e : TypeId} {n : Nat} (ht : P.underlying t = some (.array n e)) (he : P.underlying e = some (.int k)) (hc : P.cellsOf e = 1) (hct : P.cellsOf t = n)
    {v : Value} (hv : ∃ cs, v = .agg cs ∧ cs.size = P.cellsOf t) {d : DataW H} {p : List MemPlace} (h : DataW.Trod enc P W base spare held t v d p) :
    ∃ zs : List Int, zs.length = n ∧ v = .agg (zs.map (Value.int k)).toArray ∧ ∀ z ∈ zs, (Lit.int k z).wf = true := by
  obtain ⟨cs, rfl, hsz⟩ := hv
  obtain ⟨fuel, hf⟩ := h
  obtain ⟨xs, m, _, _, hl, hxl, hx⟩ := DataW.trod_array ht hf
  have key : ∀ i, i < n → ∃ z, cs[i]? = some (.int k z) ∧ (Lit.int k z).wf = true := by
    intro i hi
    have hi' : i < cs.size := by omega
    have h1 := hx i hi
    rw [hc, Nat.mul_one] at h1
    have e1 : (((Value.agg cs).cells.toList.drop i).take 1) = [cs[i]] := by
      show ((cs.toList.drop i).take 1) = _
      rw [List.drop_eq_getElem_cons (by simpa using hi')]
      simp
    rw [e1, List.getElem?_eq_getElem (by omega)] at h1
    obtain ⟨z, hz, _, hw⟩ := DataW.trod_int he h1
    refine ⟨z, ?_, hw⟩
    rw [Array.getElem?_eq_getElem hi']
    simpa using hz
  let f : Nat → Int := fun i => match cs[i]? with | some (.int _ z) => z | _ => 0
  refine ⟨(List.range n).map f, by simp, ?_, ?_⟩
  · congr 1
    refine Array.ext (by simp; omega) fun i h1 h2 => ?_
    obtain ⟨z, hz, _⟩ := key i (by omega)
    have : f i = z := by simp only [f, hz]
    simp [this]
    rw [Array.getElem?_eq_getElem h1] at hz
    exact Option.some.inj hz
  · intro z hz
    simp only [List.mem_map, List.mem_range] at hz
    obtain ⟨i, hi, rfl⟩ := hz
    obtain ⟨z, hz, hw⟩ := key i hi
    have : f i = z := by simp only [f, hz]
    rw [this]; exact hw

theorem i64_bounds {a : Int} (h : (Lit.int .i64 a).wf = true) : -9223372036854775808 ≤ a ∧ a ≤ 9223372036854775807 := by
  simp only [Lit.wf, IntKind.min, IntKind.max, IntKind.signed, IntKind.bits, Bool.and_eq_true, decide_eq_true_eq] at h
  simp at h
  omega
end
end Go.Proofs.Yticfmhmkgcdhgaa
