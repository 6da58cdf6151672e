/-
  append of a slice that reads as a list onto a row of the call's own; rows.
-/
import Derived.Test.YticfmhmkgcdhgaaBo1
import Derived.Laws.AppendOwnNone
set_option linter.unusedSimpArgs false
set_option linter.unusedVariables false
namespace Go.Proofs.Yticfmhmkgcdhgaa
open Go.RowKit

theorem Rd.srcAt {w : World} {A : Option Addr} {xs : List Value} (h : Rd w A xs) (hpos : 0 < xs.length) : ∃ ad, A = some ad ∧ ∀ j v, xs[j]? = some v → w.cell? (ad.add j) = some v := by
  obtain ⟨b, o, rfl, _⟩ := h.at_ hpos
  refine ⟨_, rfl, fun j v hv => ?_⟩
  obtain ⟨b', o', e, hcell⟩ := h j v hv
  simp at e
  obtain ⟨rfl, rfl⟩ := e
  rw [show (⟨b, o, none⟩ : Addr).add j = ⟨b, o + j, none⟩ from by unfold Addr.add; split <;> simp_all]
  exact hcell

/-- append of a slice (nil, empty or not) onto a row of the call's own. -/
theorem appN {P : Program} {w0 W : World} {ops : Array Oper} {rest : List Oper} {o : Oper} {a : Act} {Q : Exit → Act → World → Prop} (hgd : o.guard = none) (s x : Operand) (t : TypeId)
    (ho : o.op = .call { callee := .builtin .append, args := #[s, x], argTypes := #[t, t] })
    {base : Nat} {e : TypeId} {z : Value} {bytes : Nat} (ht : P.underlying t = some (.slice e)) (hi : (P.info? e).map (fun i => (i.zero, i.size, i.bytes)) = some (some z, 1, bytes)) (hzs : z.cells.size = 1)
    {v : Value} {n : Nat} {xs : List Value} (hs : a.eval s = v) (hown : W.ownsRow base e 1 v n xs) (hB : w0.heap.size ≤ base) (hbW : base ≤ W.heap.size) (hb : Below w0.heap.size w0 W)
    {A : Option Addr} {m c : Nat} {ys : List Value} (hx : a.eval x = .slice A m c) (hr : Rd W A ys) (hl : ys.length = m) (hnil : A = none → c = 0) (h1 : ∀ u ∈ ys, u.oneCell' = true)
    (hbytes : (n + m) * bytes ≤ 140737488355328) (h63 : n + m ≤ maxLen)
    (h : ∀ v' w1, w1.ownsRow base e 1 v' (n + m) (xs ++ ys) → Below w0.heap.size w0 w1 → base ≤ w1.heap.size → (v' = .slice none 0 0 ↔ v = .slice none 0 0 ∧ m = 0) → wpList P ops Q rest (a.put o.dst v') w1) :
    wpList P ops Q (o :: rest) a W := by
  obtain ⟨i, hi, hz0, hz1, hz2⟩ := info_parts hi
  cases A with
  | none =>
    have hm : ys = [] := by
      cases ys with
      | nil => rfl
      | cons y l => obtain ⟨_, _, e, _⟩ := hr 0 y rfl; cases e
    subst hm
    obtain rfl : m = 0 := by simpa using hl.symm
    rw [hnil rfl] at hx
    refine wpList_append_own_none hgd s x t ho base e i 1 ht hi v n xs hs hown hx ?_
    exact h v W (by simpa using hown) hb hbW (by simp)
  | some ad =>
    refine wpList_append_own W hgd s x t ho base e i z 1 bytes ht hi hz0 hz1 hz2 hzs (by decide) v n xs hs hown ad m c ys hx (by omega) ?_ h1 h63 hbytes hbW ?_
    · intro j u hu
      obtain ⟨b, o, e, hc⟩ := hr j u hu
      injection e with e
      subst e
      rw [show (⟨b, o, none⟩ : Addr).add j = ⟨b, o + j, none⟩ from by unfold Addr.add; split <;> simp_all]
      exact hc
    · intro v' w1 hown1 hgrow hnil
      refine h v' w1 hown1 (hb.grown hgrow (by omega) ?_) (by have := hgrow.size; omega) hnil
      intro k hk
      have := (hown.lt k hk).1
      omega
theorem ownsRow_less {w : World} {b b' : Nat} {e : TypeId} {size n : Nat} {v : Value} {xs : List Value} (h : w.ownsRow b e size v n xs) (hb : b' ≤ b) : w.ownsRow b' e size v n xs := by
  refine ⟨h.1, ?_⟩
  rcases h.2 with h | ⟨g, cap, cur, h1, h2, h3⟩
  · exact .inl h
  · exact .inr ⟨g, cap, cur, h1, by omega, h3⟩
theorem ownsRow_below {w w' : World} {base : Nat} {e : TypeId} {size n : Nat} {v : Value} {xs : List Value} (h : w.ownsRow base e size v n xs) (hb : Below w.heap.size w w') : w'.ownsRow base e size v n xs := by
  refine ⟨h.1, ?_⟩
  rcases h.2 with hn | ⟨g, cap, cur, rfl, hg, hgg, rest⟩
  · exact .inl hn
  · refine .inr ⟨g, cap, cur, rfl, hg, ?_, rest⟩
    rw [hb.block g (Array.getElem?_eq_some_iff.1 hgg).1]; exact hgg
theorem own_nilcap {w : World} {base : Nat} {e : TypeId} {v : Value} {n : Nat} {xs : List Value} (h : w.ownsRow base e 1 v n xs) :
    ∃ A c, v = .slice A n c ∧ n ≤ c ∧ Rd w A xs ∧ (A = none → c = 0) := by
  obtain ⟨A, c, rfl, hc, hr⟩ := own_rd h
  refine ⟨A, c, rfl, hc, hr, ?_⟩
  rintro rfl
  rcases h.2 with ⟨e, -⟩ | ⟨g, cap, cur, e, -⟩
  · injection e
  · injection e with e1 e2 e3; cases e1
end Go.Proofs.Yticfmhmkgcdhgaa
