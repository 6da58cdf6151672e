/-
  What BitsBack wrote: the codes of calls, one behind the other.
-/
import Derived.Test.YtfncmgojeaeihaaBackB01
import Derived.Test.YtfncmgojeaeihaaTriples
namespace Go.Proofs.Ytfncmgojeaeihaa
open Go.RowKit

/-- The bits that a call wrote. -/
def code (x : T3) : List Nat := if x.a = 0 then vb x.v.toNat x.n.toNat else if x.a = 1 then vb (x.v % 2 ^ x.n.toNat).toNat x.n.toNat else if x.a = 2 then zb x.v.toNat ++ [1] else zb x.v.toNat
def codes (l : List T3) : List Nat := l.flatMap code
theorem codes_snoc (l : List T3) (x : T3) : codes (l ++ [x]) = codes l ++ code x := by simp [codes]
/-- A call that was right where it stood. -/
def fits (t : Nat) (x : T3) : Prop := (x.a = 0 ∧ ptE x.n x.v = 0) ∨ (x.a = 1 ∧ swE x.n x.v = 0) ∨ (x.a = 2 ∧ uwE x.v = 0) ∨ (x.a = 3 ∧ x.v = (alN t : Nat))
def Fits (l : List T3) : Prop := ∀ i x, l[i]? = some x → fits (codes (l.take i)).length x
theorem Fits.snoc {l : List T3} {x : T3} (h : Fits l) (hx : fits (codes l).length x) : Fits (l ++ [x]) := by
  intro i y hy
  rcases Nat.lt_or_ge i l.length with hi | hi
  · rw [List.getElem?_append_left hi] at hy
    rw [List.take_append_of_le_length (by omega)]
    exact h i y hy
  · rw [List.getElem?_append_right hi] at hy
    have h0 : i - l.length = 0 := by
      rcases Nat.eq_zero_or_pos (i - l.length) with h | h
      · exact h
      · rw [List.getElem?_eq_none (by simp; omega)] at hy; cases hy
    rw [h0] at hy
    simp at hy
    subst hy
    rw [List.take_append_of_le_length (by omega), List.take_of_length_le (by omega)]
    exact hx
theorem code_lt (x : T3) : ∀ b ∈ code x, b < 2 := by
  intro b hb
  unfold code at hb
  split at hb
  · exact vb_lt _ _ b hb
  · split at hb
    · exact vb_lt _ _ b hb
    · split at hb
      · rcases List.mem_append.1 hb with h | h
        · have := List.eq_of_mem_replicate h; omega
        · simp at h; omega
      · have := List.eq_of_mem_replicate hb; omega
theorem codes_lt (l : List T3) : ∀ b ∈ codes l, b < 2 := by
  intro b hb
  obtain ⟨x, -, h⟩ := List.mem_flatMap.1 hb
  exact code_lt x b h
theorem codes_stand (l : List T3) (i : Nat) (h : i < l.length) : Stands (pkL (codes l)) (codes (l.take i)).length (code l[i]) := by
  have e : codes l = codes (l.take i) ++ code l[i] ++ codes (l.drop (i + 1)) := by
    have e1 : l = l.take i ++ l[i] :: l.drop (i + 1) := by rw [← List.drop_eq_getElem_cons h, List.take_append_drop]
    have e2 : codes l = codes (l.take i ++ l[i] :: l.drop (i + 1)) := congrArg codes e1
    rw [e2]
    unfold codes
    rw [List.flatMap_append, List.flatMap_cons, List.append_assoc]
  have := stands_pkL (pre := codes (l.take i)) (m := code l[i]) (post := codes (l.drop (i + 1))) (by rw [← e]; exact codes_lt l)
  rw [← e] at this
  exact this
end Go.Proofs.Ytfncmgojeaeihaa
