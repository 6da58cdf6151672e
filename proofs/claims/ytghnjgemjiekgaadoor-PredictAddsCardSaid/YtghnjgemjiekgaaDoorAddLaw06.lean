/-
  A prediction without a shift tells of a sum the sum: plain.
-/
import Derived.Test.YtghnjgemjiekgaaDoorAwake06
namespace Go.Proofs.YtghnjgemjiekgaaDoor
open Go.RowKit

def addL (a b : List Int) : List Int := List.zipWith (· + ·) a b
theorem addL_length (a b : List Int) (h : a.length = b.length) : (addL a b).length = a.length := by simp [addL, h]
theorem addL_getD (a b : List Int) (h : a.length = b.length) (i : Nat) : (addL a b).getD i 0 = a.getD i 0 + b.getD i 0 := by
  simp only [addL, List.getD_eq_getElem?_getD, List.getElem?_zipWith]
  by_cases hi : i < a.length
  · rw [List.getElem?_eq_getElem hi, List.getElem?_eq_getElem (by omega)]; rfl
  · rw [List.getElem?_eq_none (by omega), List.getElem?_eq_none (by omega)]; rfl
theorem addL_take (a b : List Int) (k : Nat) : (addL a b).take k = addL (a.take k) (b.take k) := by simp [addL, List.take_zipWith]
theorem addL_drop (a b : List Int) (k : Nat) : (addL a b).drop k = addL (a.drop k) (b.drop k) := by simp [addL, List.drop_zipWith]
theorem dotN_add (cs a b : List Int) (h : a.length = b.length) : ∀ k, dotN cs (addL a b) k = dotN cs a k + dotN cs b k
  | 0 => rfl
  | k + 1 => by
    rw [dotN, dotN, dotN, dotN_add cs a b h k, addL_getD a b h, addL_length a b h, h, Int.mul_add]
    omega
theorem toldN_add (cs a b : List Int) (h : a.length = b.length) : toldN cs 0 (addL a b) = toldN cs 0 a + toldN cs 0 b := by
  unfold toldN
  rw [addL_length a b h, addL_drop, ← h, dotN_add cs _ _ (by simp [h])]
  simp
/-- Samples of up to 2^30 either way. -/
def okA (l : List Int) : Prop := ∀ x ∈ l, -1073741824 ≤ x ∧ x ≤ 1073741824
theorem okA_any (l : List Int) (h : ∀ x ∈ l, -2147483648 ≤ x ∧ x ≤ 2147483648) : l.any outS = false := by
  rw [List.any_eq_false]
  intro x hx
  have := h x hx
  simp only [outS, Bool.or_eq_true, decide_eq_true_eq, not_or]
  omega
theorem addL_bd (a b : List Int) (ha : okA a) (hb : okA b) : ∀ x ∈ addL a b, -2147483648 ≤ x ∧ x ≤ 2147483648 := by
  intro x hx
  unfold addL at hx
  obtain ⟨i, hi, rfl⟩ := List.getElem_of_mem hx
  have hi2 := hi
  rw [List.length_zipWith] at hi2
  rw [List.getElem_zipWith]
  have h1 := ha _ (List.getElem_mem (l := a) (n := i) (by omega))
  have h2 := hb _ (List.getElem_mem (l := b) (n := i) (by omega))
  omega
theorem resE_same (pr sh : Int) (cs a b : List Int) (hl : a.length = b.length) (ha : a.any outS = false) (hb : b.any outS = false) : resE pr sh cs a = resE pr sh cs b := by
  unfold resE; rw [hl, ha, hb]
theorem add_law (pr : Int) (cs a b : List Int) (hl : a.length = b.length) (ha : okA a) (hb : okA b) :
    resE pr 0 cs b = resE pr 0 cs a ∧ resE pr 0 cs (addL a b) = resE pr 0 cs a ∧ (resL pr 0 cs b).length = (resL pr 0 cs a).length ∧ (resL pr 0 cs (addL a b)).length = (resL pr 0 cs a).length ∧
      (∀ i, i < (resL pr 0 cs a).length → (resL pr 0 cs (addL a b)).getD i 0 = (resL pr 0 cs a).getD i 0 + (resL pr 0 cs b).getD i 0) ∧
      (∀ i, ((resL pr 0 cs a).getD i 0).natAbs ≤ 2256094780981248 ∧ ((resL pr 0 cs b).getD i 0).natAbs ≤ 2256094780981248) := by
  have h1 : a.any outS = false := okA_any a fun x hx => by have := ha x hx; omega
  have h2 : b.any outS = false := okA_any b fun x hx => by have := hb x hx; omega
  have h3 : (addL a b).any outS = false := okA_any _ (addL_bd a b ha hb)
  have e1 := resE_same pr 0 cs b a hl.symm h2 h1
  have e2 := resE_same pr 0 cs (addL a b) a (addL_length a b hl) h3 h1
  by_cases hE : resE pr 0 cs a = 0
  · have l1 : resL pr 0 cs a = resN cs 0 a := if_pos hE
    have l2 : resL pr 0 cs b = resN cs 0 b := if_pos (e1.trans hE)
    have l3 : resL pr 0 cs (addL a b) = resN cs 0 (addL a b) := if_pos (e2.trans hE)
    have hok : okL pr 0 cs = true := by
      cases h : okL pr 0 cs with
      | true => rfl
      | false => rw [resE, if_pos h] at hE; cases hE
    obtain ⟨hm, -, hcs⟩ := okL_spec hok
    have bd : ∀ (l : List Int), l.any outS = false → ∀ i, ((resN cs 0 l).getD i 0).natAbs ≤ 2256094780981248 := by
      intro l hl i
      rw [List.getD_eq_getElem?_getD]
      cases e : (resN cs 0 l)[i]? with
      | none => simp
      | some x =>
        have := resN_bd cs l 0 hcs hm (okS_of l hl) x (List.mem_of_getElem? e)
        simp; omega
    rw [l1, l2, l3]
    refine ⟨e1, e2, by rw [resN_length, resN_length, hl], by rw [resN_length, resN_length, addL_length a b hl], ?_, fun i => ⟨bd a h1 i, bd b h2 i⟩⟩
    intro i hi
    rw [resN_length] at hi
    have g : ∀ l : List Int, l.length = a.length → (resN cs 0 l).getD i 0 = l.getD (cs.length + i) 0 - toldN cs 0 (l.take (cs.length + i)) := by
      intro l hll
      rw [List.getD_eq_getElem?_getD, List.getElem?_eq_getElem (by rw [resN_length]; omega)]
      simp [resN]
    rw [g a rfl, g b hl.symm, g (addL a b) (addL_length a b hl), addL_take, toldN_add cs _ _ (by simp [hl]), addL_getD a b hl]
    omega
  · have l1 : resL pr 0 cs a = [] := if_neg hE
    have l2 : resL pr 0 cs b = [] := if_neg (by rw [e1]; exact hE)
    have l3 : resL pr 0 cs (addL a b) = [] := if_neg (by rw [e2]; exact hE)
    rw [l1, l2, l3]
    exact ⟨e1, e2, rfl, rfl, fun i hi => by simp at hi, fun i => by simp⟩
end Go.Proofs.YtghnjgemjiekgaaDoor
