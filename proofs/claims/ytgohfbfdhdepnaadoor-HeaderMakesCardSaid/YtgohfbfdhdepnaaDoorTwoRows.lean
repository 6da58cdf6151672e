/-
  Two rows of the call's own, appended to by turns: append of one element that tells where the row lies.
-/
import Derived.Test.YtgohfbfdhdepnaaDoorL
namespace Go.Proofs.YtgohfbfdhdepnaaDoor
open Go.RowKit

theorem apart_symm {v v2 : Value} (h : v2.ownBlock = none ∨ v2.ownBlock ≠ v.ownBlock) : v.ownBlock = none ∨ v.ownBlock ≠ v2.ownBlock := by
  rcases h with h | h
  · cases h2 : v.ownBlock with
    | none => exact .inl rfl
    | some k => right; rw [h]; simp
  · exact .inr (Ne.symm h)

theorem row_kept {W w1 : World} {o : Obj} {v v' v2 : Value} {base s2 n2 : Nat} {e2 : TypeId} {xs2 : List Value} (hown2 : W.ownsRow base e2 s2 v2 n2 xs2) (hap : v2.ownBlock = none ∨ v2.ownBlock ≠ v.ownBlock)
    (hgrow : (W.alloc o).grownBy w1 v.ownBlock) (hat : v'.ownBlock = v.ownBlock ∨ v'.ownBlock = some (W.alloc o).heap.size) : w1.ownsRow base e2 s2 v2 n2 xs2 ∧ (v2.ownBlock = none ∨ v2.ownBlock ≠ v'.ownBlock) := by
  refine ⟨(hown2.alloc o).kept hgrow hap, ?_⟩
  rcases hap with h | h
  · exact .inl h
  · rcases hat with h' | h'
    · rw [h']; exact .inr h
    · rw [h']
      right
      intro e
      have := ((hown2.alloc o).lt _ e).2
      omega

/-- As app1; and where the row lies. -/
theorem app1o {P : Program} {w0 W : World} {ops : Array Oper} {rest : List Oper} {o : Oper} {a : Act} {Q : Exit → Act → World → Prop} (hgd : o.guard = none) (s x : Operand) (t : TypeId)
    (ho : o.op = .call { callee := .builtin .append, args := #[s, x], argTypes := #[t, t] })
    {base : Nat} {e : TypeId} {z : Value} {size bytes : Nat} (ht : P.underlying t = some (.slice e)) (hi : (P.info? e).map (fun i => (i.zero, i.size, i.bytes)) = some (some z, size, bytes)) (hzs : z.cells.size = size) (hsz : 0 < size)
    {v : Value} {n : Nat} {xs : List Value} (hs : a.eval s = v) (hown : W.ownsRow base e size v n xs) (hB : w0.heap.size ≤ base) (hbW : base ≤ W.heap.size) (hb : Below w0.heap.size w0 W)
    {arr : Array Value} (hx : a.eval x = .slice (some ⟨W.heap.size, 0, none⟩) 1 1) (hl : arr.size = size) (h1 : ∀ u ∈ arr.toList, u.oneCell' = true)
    (hbytes : (n + 1) * bytes ≤ 140737488355328) (h63 : n + 1 ≤ maxLen)
    (h : ∀ v' w1, w1.ownsRow base e size v' (n + 1) (xs ++ arr.toList) → Below w0.heap.size w0 w1 → base ≤ w1.heap.size → (W.alloc (.cells arr e)).grownBy w1 v.ownBlock → (v'.ownBlock = v.ownBlock ∨ v'.ownBlock = some (W.alloc (.cells arr e)).heap.size) → wpList P ops Q rest (a.put o.dst v') w1) :
    wpList P ops Q (o :: rest) a (W.alloc (.cells arr e)) := by
  obtain ⟨i, hi, hz0, hz1, hz2⟩ := info_parts hi
  refine wpList_append_own_at (W.alloc (.cells arr e)) hgd s x t ho base e i z size bytes ht hi hz0 hz1 hz2 hzs hsz v n xs hs (hown.alloc _) ⟨W.heap.size, 0, none⟩ 1 1 arr.toList hx (by simp [hl]) ?_ h1 h63 hbytes (by simp; omega) ?_
  · intro j u hu
    have : (⟨W.heap.size, 0, none⟩ : Addr).add j = ⟨W.heap.size, j, none⟩ := by unfold Addr.add; split <;> simp_all
    rw [this, cell_of_row _ W.heap.size j arr e (0, 0) (heap_alloc_new W _)]
    simpa using hu
  · intro v' w1 hown1 hgrow _ hat
    refine h v' w1 hown1 ((hb.alloc (by omega) _).grown hgrow (by simp; omega) ?_) ?_ hgrow hat
    · intro k hk
      have := (hown.lt k hk).1
      omega
    · have := hgrow.size; simp at this; omega
end Go.Proofs.YtgohfbfdhdepnaaDoor
