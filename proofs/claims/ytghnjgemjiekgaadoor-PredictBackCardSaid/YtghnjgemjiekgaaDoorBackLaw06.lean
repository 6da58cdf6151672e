/-
  Restore undoes Residual, and Residual Restore: the plain law.
-/
import Derived.Test.YtghnjgemjiekgaaDoorRest06
namespace Go.Proofs.YtghnjgemjiekgaaDoor
open Go.RowKit

theorem rst_back (cs : List Int) (sn : Nat) (ls : List Int) (hs : okS ls) (n : Nat) : ∀ k, (resN cs sn ls).length - k = n → cs.length + k ≤ ls.length → rst cs sn (ls.take (cs.length + k)) ((resN cs sn ls).drop k) = some ls := by
  induction n with
  | zero =>
    intro k hn hk
    rw [resN_length] at hn
    rw [List.drop_eq_nil_of_le (by rw [resN_length]; omega), List.take_of_length_le (by omega)]; rfl
  | succ n ih =>
    intro k hn hk
    have hkl : k < (resN cs sn ls).length := by omega
    have hpl : cs.length + k < ls.length := by rw [resN_length] at hkl; omega
    have hx : (resN cs sn ls)[k] = ls[cs.length + k] - toldN cs sn (ls.take (cs.length + k)) := by
      simp [resN, List.getD_eq_getElem?_getD, List.getElem?_eq_getElem hpl]
    rw [List.drop_eq_getElem_cons hkl, rst, hx, Int.sub_add_cancel]
    have ho : outS ls[cs.length + k] = false := by
      have := hs _ (List.getElem_mem hpl)
      simp [outS]; omega
    rw [if_neg (by rw [ho]; decide), ← List.take_succ_eq_append_getElem hpl]
    exact ih (k + 1) (by omega) (by omega)

theorem rst_fwd (cs : List Int) (sn : Nat) (ms : List Int) : ∀ o y, rst cs sn o ms = some y → okS o → okS y ∧ y.length = o.length + ms.length ∧ y.take o.length = o ∧ ∀ j < ms.length, y.getD (o.length + j) 0 - toldN cs sn (y.take (o.length + j)) = ms.getD j 0 := by
  induction ms with
  | nil =>
    intro o y h ho
    simp only [rst, Option.some.injEq] at h
    subst h
    exact ⟨ho, by simp, by simp, fun j hj => by simp at hj⟩
  | cons x ms ih =>
    intro o y h ho
    rw [rst] at h
    split at h
    · cases h
    · rename_i hx
      obtain ⟨h1, h2, h3, h4⟩ := ih _ _ h (okS_snoc ho (by simpa using hx))
      simp only [List.length_append, List.length_cons, List.length_nil, Nat.zero_add] at h2 h3 h4
      have h5 : y.take o.length = o := by
        have := congrArg (List.take o.length) h3
        rw [List.take_take, Nat.min_eq_left (by omega)] at this
        rw [this]; simp
      refine ⟨h1, by simp only [List.length_cons]; omega, h5, ?_⟩
      intro j hj
      cases j with
      | zero =>
        rw [Nat.add_zero, h5]
        have h6 : y.getD o.length 0 = x + toldN cs sn o := by
          have h7 := congrArg (fun l => l.getD o.length 0) h3
          simp only [List.getD_eq_getElem?_getD, List.getElem?_take, if_pos (Nat.lt_succ_self _)] at h7
          rw [List.getD_eq_getElem?_getD, h7]; simp
        rw [h6]; simp
      | succ j =>
        have := h4 j (by simp only [List.length_cons] at hj; omega)
        rw [show o.length + (j + 1) = o.length + 1 + j from by omega, this]; rfl

theorem back_law (pr sh : Int) (cs ls : List Int) (hE : resE pr sh cs ls = 0) :
    okL pr sh cs = true ∧ cs.length ≤ ls.length ∧ okS ls ∧ (ls.take cs.length).length = cs.length ∧ rsE pr sh cs (ls.take cs.length) (resL pr sh cs ls) = 0 ∧ rsL pr sh cs (ls.take cs.length) (resL pr sh cs ls) = ls := by
  have hok : okL pr sh cs = true := by
    cases h : okL pr sh cs with
    | true => rfl
    | false => rw [resE, if_pos h] at hE; cases hE
  have hlt : ¬ ls.length < cs.length := by
    intro h; rw [resE, if_neg (by rw [hok]; decide), if_pos h] at hE; cases hE
  have han : ls.any outS = false := by
    cases h : ls.any outS with
    | false => rfl
    | true => rw [resE, if_neg (by rw [hok]; decide), if_neg hlt, if_pos h] at hE; cases hE
  have hs := okS_of ls han
  have hfl : (ls.take cs.length).length = cs.length := by rw [List.length_take]; omega
  have hl : resL pr sh cs ls = resN cs sh.toNat ls := if_pos hE
  have hr := rst_back cs sh.toNat ls hs _ 0 rfl (by omega)
  rw [Nat.add_zero, List.drop_zero] at hr
  have hfa : (ls.take cs.length).any outS = false := by
    rw [List.any_eq_false] at han ⊢
    exact fun x hx => han x (List.mem_of_mem_take hx)
  have hE2 : rsE pr sh cs (ls.take cs.length) (resL pr sh cs ls) = 0 := by
    rw [rsE, hl, hr, if_neg (by rw [hok]; decide), if_pos hfl, if_neg (by rw [hfa]; decide)]; rfl
  refine ⟨hok, by omega, hs, hfl, hE2, ?_⟩
  rw [rsL, if_pos hE2, hl, hr]; rfl

theorem fwd_law (pr sh : Int) (cs fs ms : List Int) (hok : okL pr sh cs = true) (hfl : fs.length = cs.length) :
    (rsE pr sh cs fs ms ≠ 0 → rsE pr sh cs fs ms = 10 ∧ rsL pr sh cs fs ms = []) ∧
    (rsE pr sh cs fs ms = 0 → resE pr sh cs (rsL pr sh cs fs ms) = 0 ∧ resL pr sh cs (rsL pr sh cs fs ms) = ms ∧ (rsL pr sh cs fs ms).take cs.length = fs ∧ (rsL pr sh cs fs ms).length = cs.length + ms.length) := by
  constructor
  · intro h
    refine ⟨?_, if_neg h⟩
    unfold rsE at h ⊢
    rw [if_neg (by rw [hok]; decide), if_pos hfl] at h ⊢
    split
    · rfl
    · rename_i h1
      rw [if_neg h1] at h
      split
      · rename_i h2; rw [if_pos h2] at h; exact absurd rfl h
      · rfl
  · intro h
    have h0 := h
    unfold rsE at h
    rw [if_neg (by rw [hok]; decide), if_pos hfl] at h
    split at h
    · cases h
    · rename_i h1
      split at h
      · rename_i h2
        obtain ⟨y, hy⟩ := Option.isSome_iff_exists.1 h2
        have hfs : okS fs := okS_of fs (by simpa using h1)
        obtain ⟨g1, g2, g3, g4⟩ := rst_fwd cs sh.toNat ms fs y hy hfs
        have e : rsL pr sh cs fs ms = y := by rw [rsL, if_pos h0, hy]; rfl
        have hya : y.any outS = false := by
          rw [List.any_eq_false]
          intro x hx
          have := g1 x hx
          simp [outS]; omega
        have hE : resE pr sh cs y = 0 := by
          rw [resE, if_neg (by rw [hok]; decide), if_neg (by omega), if_neg (by rw [hya]; decide)]
        rw [e]
        refine ⟨hE, ?_, by rw [← hfl]; exact g3, by omega⟩
        rw [resL, if_pos hE]
        refine List.ext_getElem (by rw [resN_length]; omega) fun j h1 h2 => ?_
        have := g4 j h2
        have e9 : ms.getD j 0 = ms[j] := by rw [List.getD_eq_getElem?_getD, List.getElem?_eq_getElem h2]; rfl
        rw [e9] at this
        simp only [resN, List.getElem_map, List.getElem_range]
        rw [← hfl]; exact this
      · cases h
end Go.Proofs.YtghnjgemjiekgaaDoor
