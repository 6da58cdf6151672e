/-
  append onto a row of one's own, with what it turns; a row of one's own beside a Writer.
-/
import Derived.Test.YtgohfbfdhdepnaaDoorPutB01
namespace Go.Proofs.YtgohfbfdhdepnaaDoor
open Go.RowKit

/-- What appends onto a slice turn. -/
structure FrL (v v' : Value) (w w' : World) : Prop where
  fr : Fr (fun k => v.ownBlock = some k) w w'
  nxt : v'.ownBlock = v.ownBlock ∨ ∃ k, v'.ownBlock = some k ∧ w.heap.size ≤ k
theorem FrL.refl (v : Value) (w : World) : FrL v v w w := ⟨Fr.refl _ _, .inl rfl⟩
theorem FrL.of {v : Value} {w w' : World} (h : Below w.heap.size w w') : FrL v v w w' := ⟨Fr.of h, .inl rfl⟩
theorem FrL.trans {v v' v2 : Value} {a b c : World} (h : FrL v v' a b) (k : FrL v' v2 b c) : FrL v v2 a c := by
  refine ⟨⟨k.fr.os.trans h.fr.os, k.fr.tape.trans h.fr.tape, k.fr.output.trans h.fr.output, Nat.le_trans h.fr.size k.fr.size, fun i hi hs => ?_⟩, ?_⟩
  · refine (k.fr.block i (Nat.lt_of_lt_of_le hi h.fr.size) ?_).trans (h.fr.block i hi hs)
    intro h1
    rcases h.nxt with e | ⟨g, e, hg⟩
    · exact hs (e.symm.trans h1)
    · rw [e] at h1; injection h1 with h1; omega
  · rcases k.nxt with e | ⟨g, e, hg⟩
    · rcases h.nxt with e2 | ⟨g, e2, hg⟩
      · exact .inl (e.trans e2)
      · exact .inr ⟨g, e.trans e2, hg⟩
    · exact .inr ⟨g, e, Nat.le_trans h.fr.size hg⟩
theorem FrL.next {v v' : Value} {a b c : World} (h : FrL v v' a b) (k : Below b.heap.size b c) : FrL v v' a c := h.trans (FrL.of k)
theorem FrL.below {v v' : Value} {w a b : World} {B s n : Nat} {e : TypeId} {xs : List Value} (h : FrL v v' a b) (hw : Below w.heap.size w a) (ho : a.ownsRow B e s v n xs) (hB : w.heap.size ≤ B) : Below w.heap.size w b :=
  h.fr.below hw fun k hk => Nat.le_trans hB (ho.lt k hk).1
/-- A row of one's own, put aside: another type's row is not it. -/
theorem own_ne {w : World} {B B' s s' n n' : Nat} {e e' : TypeId} {v v' : Value} {xs xs' : List Value} (h : w.ownsRow B e s v n xs) (h' : w.ownsRow B' e' s' v' n' xs') (hne : e ≠ e') : ∀ k, v.ownBlock = some k → ¬ v'.ownBlock = some k := by
  intro k hk hk'
  rcases h.2 with ⟨rfl, -⟩ | ⟨g, cap, cur, rfl, hb, hg, -⟩
  · cases hk
  · have e : g = k := by injection hk
    subst e
    rcases h'.2 with ⟨rfl, -⟩ | ⟨g2, cap2, cur2, rfl, hb2, hg2, -⟩
    · cases hk'
    · have e2 : g2 = g := by injection hk'
      subst e2
      rw [hg2] at hg
      simp at hg
      exact hne hg.2.symm
theorem own_fr {S : Nat → Prop} {w w' : World} {B n s : Nat} {e : TypeId} {v : Value} {xs : List Value} (ho : w.ownsRow B e s v n xs) (f : Fr S w w') (hs : ∀ k, v.ownBlock = some k → ¬ S k) : w'.ownsRow B e s v n xs := by
  refine ⟨ho.1, ?_⟩
  rcases ho.2 with e | ⟨g, cap, cur, rfl, hb, hg, hn⟩
  · exact .inl e
  · exact .inr ⟨g, cap, cur, rfl, hb, f.row hg (hs g rfl), hn⟩
/-- A row of numbers is not a Writer's. -/
theorem Wtr.notRow {w : World} {R : Nat} {bs : List Nat} {u : Value} (h : Wtr w R bs u) {B s n : Nat} {e : TypeId} {v : Value} {xs : List Value} (ho : w.ownsRow B e s v n xs) (h1 : e ≠ 87) (h2 : e ≠ 5) : ∀ k, WS R u k → ¬ v.ownBlock = some k := by
  intro k hk hv
  rcases hk with rfl | hk
  · rcases ho.2 with ⟨rfl, -⟩ | ⟨g, cap, cur, rfl, hb, hg, -⟩
    · cases hv
    · have e : g = k := by injection hv
      subst e
      rw [h.row] at hg
      simp at hg
      exact h1 hg.2.symm
  · exact own_ne ho h.own h2 k hv hk
theorem Wtr.keepRow {w w' : World} {R : Nat} {bs : List Nat} {u : Value} (h : Wtr w R bs u) {B s n : Nat} {e : TypeId} {v v' : Value} {xs : List Value} (ho : w.ownsRow B e s v n xs) (h1 : e ≠ 87) (h2 : e ≠ 5) (f : FrL v v' w w') : Wtr w' R bs u :=
  h.keep f.fr (h.notRow ho h1 h2)
theorem own_keepWtr {w w' : World} {R : Nat} {bs : List Nat} {u u' : Value} (h : Wtr w R bs u) {B s n : Nat} {e : TypeId} {v : Value} {xs : List Value} (ho : w.ownsRow B e s v n xs) (h1 : e ≠ 87) (h2 : e ≠ 5) (f : FrW R u u' w w') : w'.ownsRow B e s v n xs :=
  own_fr ho f.fr (fun k hv hk => h.notRow ho h1 h2 k hk hv)

/-- append of a slice (nil, empty or not) onto a row of the call's own, with what turns. -/
theorem appNg {P : Program} {W : World} {ops : Array Oper} {rest : List Oper} {o : Oper} {a : Act} {Q : Exit → Act → World → Prop} (hgd : o.guard = none) (s x : Operand) (t : TypeId)
    (ho : o.op = .call { callee := .builtin .append, args := #[s, x], argTypes := #[t, t] })
    {base : Nat} {e : TypeId} {z : Value} {bytes : Nat} (ht : P.underlying t = some (.slice e)) (hi : (P.info? e).map (fun i => (i.zero, i.size, i.bytes)) = some (some z, 1, bytes)) (hzs : z.cells.size = 1)
    {v : Value} {n : Nat} {xs : List Value} (hs : a.eval s = v) (hown : W.ownsRow base e 1 v n xs) (hbW : base ≤ W.heap.size)
    {A : Option Addr} {m c : Nat} {ys : List Value} (hx : a.eval x = .slice A m c) (hr : Rd W A ys) (hl : ys.length = m) (hnil : A = none → c = 0) (h1 : ∀ u ∈ ys, u.oneCell' = true)
    (hbytes : (n + m) * bytes ≤ 140737488355328) (h63 : n + m ≤ maxLen)
    (h : ∀ v' w1, w1.ownsRow base e 1 v' (n + m) (xs ++ ys) → FrL v v' W w1 → wpList P ops Q rest (a.put o.dst v') w1) :
    wpList P ops Q (o :: rest) a W := by
  obtain ⟨i, hi, hz0, hz1, hz2⟩ := info_parts hi
  cases A with
  | none =>
    have hm : ys = [] := by
      cases ys with
      | nil => rfl
      | cons y l => obtain ⟨_, _, e, _⟩ := hr 0 y rfl; cases e
    subst hm
    obtain rfl : m = 0 := by simpa using hl.symm
    rw [hnil rfl] at hx
    refine wpList_append_own_none hgd s x t ho base e i 1 ht hi v n xs hs hown hx ?_
    exact h v W (by simpa using hown) (FrL.refl _ _)
  | some ad =>
    refine wpList_append_own_at W hgd s x t ho base e i z 1 bytes ht hi hz0 hz1 hz2 hzs (by decide) v n xs hs hown ad m c ys hx (by omega) ?_ h1 h63 hbytes hbW ?_
    · intro j u hu
      obtain ⟨b, o, e, hc⟩ := hr j u hu
      injection e with e
      subst e
      rw [show (⟨b, o, none⟩ : Addr).add j = ⟨b, o + j, none⟩ from by unfold Addr.add; split <;> simp_all]
      exact hc
    · intro v' w1 hown1 g _ hat
      refine h v' w1 hown1 ⟨⟨g.os, g.tape, g.output, g.size, fun k hk hs => g.block k hk (fun e => hs e.symm)⟩, ?_⟩
      rcases hat with e | e
      · exact .inl e
      · exact .inr ⟨_, e, Nat.le_refl _⟩
/-- .. of one element, with what turns. -/
theorem frL_grown {W w1 : World} {v v' : Value} (g : W.grownBy w1 v.ownBlock) (hat : v'.ownBlock = v.ownBlock ∨ ∃ k, v'.ownBlock = some k ∧ W.heap.size ≤ k) : FrL v v' W w1 :=
  ⟨⟨g.os, g.tape, g.output, g.size, fun k hk hs => g.block k hk (fun e => hs e.symm)⟩, hat⟩
end Go.Proofs.YtgohfbfdhdepnaaDoor
