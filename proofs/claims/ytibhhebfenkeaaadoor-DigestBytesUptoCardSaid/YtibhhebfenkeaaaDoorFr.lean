/-
  What may turn in a step (the blocks of S alone).
-/
import Derived.Test.YtibhhebfenkeaaaDoorL
namespace Go.Proofs.YtibhhebfenkeaaaDoor
open Go.RowKit

/-- What may turn in a step: the blocks of S alone. -/
structure Fr (S : Nat → Prop) (w w' : World) : Prop where
  os : w'.os = w.os
  tape : w'.tape = w.tape
  output : w'.output = w.output
  size : w.heap.size ≤ w'.heap.size
  block : ∀ k, k < w.heap.size → ¬ S k → w'.heap[k]? = w.heap[k]?
theorem Fr.refl (S : Nat → Prop) (w : World) : Fr S w w := ⟨rfl, rfl, rfl, Nat.le_refl _, fun _ _ _ => rfl⟩
theorem Fr.trans {S : Nat → Prop} {a b c : World} (h : Fr S a b) (k : Fr S b c) : Fr S a c :=
  ⟨k.os.trans h.os, k.tape.trans h.tape, k.output.trans h.output, Nat.le_trans h.size k.size, fun i hi hs => (k.block i (Nat.lt_of_lt_of_le hi h.size) hs).trans (h.block i hi hs)⟩
theorem Fr.of {S : Nat → Prop} {a b : World} (h : Below a.heap.size a b) : Fr S a b := ⟨h.os, h.tape, h.output, h.size, fun k hk _ => h.block k hk⟩
theorem Fr.next {S : Nat → Prop} {a b c : World} (h : Fr S a b) (k : Below b.heap.size b c) : Fr S a c := h.trans (Fr.of k)
theorem Fr.wide {S T : Nat → Prop} {a b : World} (h : Fr S a b) (hs : ∀ k, S k → T k) : Fr T a b := ⟨h.os, h.tape, h.output, h.size, fun k hk ht => h.block k hk fun hS => ht (hs k hS)⟩
theorem Fr.setCell {S : Nat → Prop} {a b : World} (h : Fr S a b) {p : Addr} (hp : S p.block) (u : Value) : Fr S a (b.setCell p u) :=
  h.trans ⟨rfl, rfl, rfl, by simp [World.setCell], fun k _ hs => Below.heap_setCell _ _ _ _ (fun e => hs (e ▸ hp))⟩
theorem Fr.put {R : Nat} {a b : World} (h : Fr (· = R) a b) (i : Nat) (u : Value) : Fr (· = R) a (b.setCell ⟨R, i, none⟩ u) := h.setCell (p := ⟨R, i, none⟩) rfl u
theorem Fr.drew {S : Nat → Prop} {a b : World} (h : Fr S a b) : Fr S a b.drew := ⟨h.os, h.tape, h.output, h.size, h.block⟩
/-- Below a number that none of S is under, all is as it was. -/
theorem Fr.below {S : Nat → Prop} {w a b : World} (h : Fr S a b) (hw : Below w.heap.size w a) (hs : ∀ k, S k → w.heap.size ≤ k) : Below w.heap.size w b :=
  hw.trans ⟨h.os, h.tape, h.output, h.size, fun k hk => h.block k (Nat.lt_of_lt_of_le hk hw.size) fun hS => by have := hs k hS; omega⟩
theorem Fr.row {S : Nat → Prop} {a b : World} (h : Fr S a b) {k : Nat} {o : Obj} (hk : a.heap[k]? = some o) (hs : ¬ S k) : b.heap[k]? = some o := by
  have hl : k < a.heap.size := by
    rcases Nat.lt_or_ge k a.heap.size with h1 | h1
    · exact h1
    · rw [Array.getElem?_eq_none h1] at hk; cases hk
  exact (h.block k hl hs).trans hk
theorem Fr.cell {S : Nat → Prop} {a b : World} (h : Fr S a b) {p : Addr} {u : Value} (hk : a.cell? p = some u) (hs : ¬ S p.block) : b.cell? p = some u := by
  obtain ⟨q, o, sp⟩ := p
  have hsp : sp = none := by simpa using World.cell?_spot hk
  subst hsp
  exact (World.cell?_of_block (w := a) (h.block q (cell_lt hk) hs)).trans hk
theorem Rd.fr {S : Nat → Prop} {a b : World} {A : Option Addr} {xs : List Value} (h : Rd a A xs) (f : Fr S a b) (hs : ∀ k o, A = some ⟨k, o, none⟩ → 0 < xs.length → ¬ S k) : Rd b A xs := by
  intro j u hu
  obtain ⟨k, o, rfl, hc⟩ := h j u hu
  have hj : 0 < xs.length := Nat.lt_of_le_of_lt (Nat.zero_le _) (List.getElem?_eq_some_iff.1 hu).1
  exact ⟨k, o, rfl, f.cell hc (hs k o rfl hj)⟩
end Go.Proofs.YtibhhebfenkeaaaDoor
