/-
  Rows of pairs of the call's own: append of many, append of one, what such a row reads as.
-/
import Derived.Test.YtikgpohoggpldaaTwoRows
import Derived.Test.YtikgpohoggpldaaInf
namespace Go.Proofs.Ytikgpohoggpldaa
open Go.RowKit

def flatP (l : List (Int × Int)) : List Value := l.flatMap fun x => [.int .i64 x.1, .int .i64 x.2]
theorem flatP_append (l m : List (Int × Int)) : flatP (l ++ m) = flatP l ++ flatP m := by simp [flatP]
theorem flatP_length (l : List (Int × Int)) : (flatP l).length = l.length * 2 := by
  induction l with
  | nil => rfl
  | cons x l ih => simp [flatP] at ih ⊢; omega
theorem flatP_at (l : List (Int × Int)) : ∀ (j : Nat) (x : Int × Int), l[j]? = some x → (flatP l)[j * 2]? = some (.int .i64 x.1) ∧ (flatP l)[j * 2 + 1]? = some (.int .i64 x.2) := by
  induction l with
  | nil => intro j x h; simp at h
  | cons y l ih =>
    intro j x h
    have e : flatP (y :: l) = .int .i64 y.1 :: .int .i64 y.2 :: flatP l := rfl
    cases j with
    | zero => simp at h; subst h; rw [e]; exact ⟨rfl, rfl⟩
    | succ j =>
      have := ih j x (by simpa using h)
      rw [e, show (j + 1) * 2 = j * 2 + 1 + 1 from by omega]
      exact ⟨by simpa using this.1, by simpa using this.2⟩
theorem flatP_one (l : List (Int × Int)) : ∀ u ∈ flatP l, u.oneCell' = true := by
  intro u hu
  simp only [flatP, List.mem_flatMap] at hu
  obtain ⟨x, -, hx⟩ := hu
  simp at hx
  rcases hx with rfl | rfl <;> rfl

theorem own_rdP {w : World} {base : Nat} {e : TypeId} {v : Value} {n : Nat} {l : List (Int × Int)} (h : w.ownsRow base e 2 v n (flatP l)) :
    ∃ A c, v = .slice A l.length c ∧ l.length ≤ c ∧ RdP w A l := by
  have hl := h.1
  rw [flatP_length] at hl
  obtain rfl : n = l.length := by omega
  rcases h.2 with ⟨rfl, hn⟩ | ⟨g, cap, cur, rfl, hb, hg, hn, hm, hs, ht⟩
  · have : l = [] := List.eq_nil_of_length_eq_zero (by omega)
    subst this
    exact ⟨none, 0, rfl, Nat.le_refl _, RdP.nil _ _⟩
  · refine ⟨some ⟨g, 0, none⟩, cap, rfl, hn, fun j x hx => ⟨g, 0, rfl, ?_⟩⟩
    obtain ⟨h1, h2⟩ := flatP_at l j x hx
    have ea : ∀ m, (⟨g, 0, none⟩ : Addr).add m = ⟨g, 0 + m, none⟩ := by intro m; unfold Addr.add; split <;> simp_all
    have k1 := h.cells (g := g) rfl _ _ h1
    have k2 := h.cells (g := g) rfl _ _ h2
    rw [ea] at k1 k2
    exact ⟨k1, k2⟩

theorem row_kept0 {W w1 : World} {v v' v2 : Value} {base s2 n2 : Nat} {e2 : TypeId} {xs2 : List Value} (hown2 : W.ownsRow base e2 s2 v2 n2 xs2) (hap : v2.ownBlock = none ∨ v2.ownBlock ≠ v.ownBlock)
    (hgrow : W.grownBy w1 v.ownBlock) (hat : v'.ownBlock = v.ownBlock ∨ v'.ownBlock = some W.heap.size) : w1.ownsRow base e2 s2 v2 n2 xs2 ∧ (v2.ownBlock = none ∨ v2.ownBlock ≠ v'.ownBlock) := by
  refine ⟨hown2.kept hgrow hap, ?_⟩
  rcases hap with h | h
  · exact .inl h
  · rcases hat with h' | h'
    · rw [h']; exact .inr h
    · rw [h']
      right
      intro e
      have := (hown2.lt _ e).2
      omega
theorem apart_nil (v : Value) : v.ownBlock = none ∨ v.ownBlock ≠ (Value.slice none 0 0).ownBlock := by
  cases h : v.ownBlock with
  | none => exact .inl rfl
  | some k => right; simp [Value.ownBlock]

/-- append of many pairs. -/
theorem appP {P : Program} {w0 W : World} {ops : Array Oper} {rest : List Oper} {o : Oper} {a : Act} {Q : Exit → Act → World → Prop} (hgd : o.guard = none) (s x : Operand) (t : TypeId)
    (ho : o.op = .call { callee := .builtin .append, args := #[s, x], argTypes := #[t, t] })
    {base : Nat} {e : TypeId} {z : Value} {bytes : Nat} (ht : P.underlying t = some (.slice e)) (hi : (P.info? e).map (fun i => (i.zero, i.size, i.bytes)) = some (some z, 2, bytes)) (hzs : z.cells.size = 2)
    {v : Value} {n : Nat} {xs : List Value} (hs : a.eval s = v) (hown : W.ownsRow base e 2 v n xs) (hB : w0.heap.size ≤ base) (hbW : base ≤ W.heap.size) (hb : Below w0.heap.size w0 W)
    {b of m c : Nat} (hx : a.eval x = .slice (some ⟨b, of, none⟩) m c) {l : List (Int × Int)} (hl : l.length = m) (hr : RdP W (some ⟨b, of, none⟩) l)
    (hbytes : (n + m) * bytes ≤ 140737488355328) (h63 : n + m ≤ maxLen)
    (h : ∀ v' w1, w1.ownsRow base e 2 v' (n + m) (xs ++ flatP l) → Below w0.heap.size w0 w1 → base ≤ w1.heap.size → W.grownBy w1 v.ownBlock → (v'.ownBlock = v.ownBlock ∨ v'.ownBlock = some W.heap.size) → wpList P ops Q rest (a.put o.dst v') w1) :
    wpList P ops Q (o :: rest) a W := by
  obtain ⟨i, hi, hz0, hz1, hz2⟩ := info_parts hi
  refine wpList_append_own_at W hgd s x t ho base e i z 2 bytes ht hi hz0 hz1 hz2 hzs (by omega) v n xs hs hown ⟨b, of, none⟩ m c (flatP l) hx (by rw [flatP_length, hl]) ?_ (flatP_one l) h63 hbytes hbW ?_
  · intro j u hu
    have ea : (⟨b, of, none⟩ : Addr).add j = ⟨b, of + j, none⟩ := by unfold Addr.add; split <;> simp_all
    rw [ea]
    have hj : j < l.length * 2 := by rw [← flatP_length]; exact (List.getElem?_eq_some_iff.1 hu).1
    have hk := List.getElem?_eq_getElem (l := l) (i := j / 2) (by omega)
    obtain ⟨h1, h2⟩ := flatP_at l _ _ hk
    obtain ⟨b', o', eq, h3, h4⟩ := hr _ _ hk
    injection eq with eq; injection eq with eq1 eq2; subst eq1; subst eq2
    rcases Nat.mod_two_eq_zero_or_one j with hm | hm
    · rw [show j / 2 * 2 = j from by omega] at h1 h3
      rw [hu] at h1
      rw [Option.some.inj h1]; exact h3
    · rw [show j / 2 * 2 + 1 = j from by omega] at h2
      rw [show of + j / 2 * 2 + 1 = of + j from by omega] at h4
      rw [hu] at h2
      rw [Option.some.inj h2]; exact h4
  · intro v' w1 hown1 hgrow _ hat
    refine h v' w1 hown1 (hb.grown hgrow (by omega) ?_) ?_ hgrow hat
    · intro k hk
      have := (hown.lt k hk).1
      omega
    · have := hgrow.size; omega
end Go.Proofs.Ytikgpohoggpldaa
