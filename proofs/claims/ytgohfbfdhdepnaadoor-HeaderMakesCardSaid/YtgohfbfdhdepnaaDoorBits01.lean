/-
  Bits of bytes: plain.
-/
import Derived.Test.YtgohfbfdhdepnaaDoorL
namespace Go.Proofs.YtgohfbfdhdepnaaDoor
open Go.RowKit

/-- The number of so many bits from a place on. -/
def sg (f : Nat → Nat) (t : Nat) : Nat → Nat
  | 0 => 0
  | n + 1 => 2 * sg f t n + f (t + n)
def bitAt (l : List UInt8) (t : Nat) : Nat := (l.getD (t / 8) 0).toNat / 2 ^ (7 - t % 8) % 2
theorem bitAt_lt (l : List UInt8) (t : Nat) : bitAt l t < 2 := Nat.mod_lt _ (by omega)
theorem sg_lt {f : Nat → Nat} (h : ∀ i, f i < 2) (t : Nat) : ∀ n, sg f t n < 2 ^ n
  | 0 => by simp [sg]
  | n + 1 => by
    have := sg_lt h t n
    have := h (t + n)
    rw [sg, Nat.pow_succ]
    omega
theorem sg_add (f : Nat → Nat) (t a : Nat) : ∀ b, sg f t (a + b) = sg f t a * 2 ^ b + sg f (t + a) b
  | 0 => by simp [sg]
  | b + 1 => by
    rw [show a + (b + 1) = a + b + 1 from rfl, sg, sg_add f t a b, sg, Nat.pow_succ, Nat.add_assoc t a b, Nat.mul_add, ← Nat.mul_assoc, Nat.mul_comm 2, Nat.mul_assoc, Nat.mul_comm 2 (2 ^ b)]
    omega
theorem sg_congr {f g : Nat → Nat} (t : Nat) : ∀ n, (∀ i, i < n → f (t + i) = g (t + i)) → sg f t n = sg g t n
  | 0, _ => rfl
  | n + 1, h => by rw [sg, sg, sg_congr t n fun i hi => h i (by omega), h n (by omega)]
theorem two_step (y k : Nat) : 2 * (y / 2 % 2 ^ k) + y % 2 = y % 2 ^ (k + 1) := by
  rw [Nat.pow_succ, Nat.mul_comm (2 ^ k) 2, Nat.mod_mul]
  omega
theorem sg_byte (l : List UInt8) (t : Nat) : ∀ k, t % 8 + k ≤ 8 → sg (bitAt l) t k = (l.getD (t / 8) 0).toNat / 2 ^ (8 - t % 8 - k) % 2 ^ k
  | 0, _ => by simp [sg, Nat.mod_one]
  | k + 1, h => by
    have e1 : (t + k) / 8 = t / 8 := by omega
    have e2 : 7 - (t + k) % 8 = 8 - t % 8 - (k + 1) := by omega
    have e3 : 8 - t % 8 - k = (8 - t % 8 - (k + 1)) + 1 := by omega
    rw [sg, sg_byte l t k (by omega), bitAt, e1, e2, e3, Nat.pow_succ, ← Nat.div_div_eq_div_mul]
    exact two_step _ _

/-- What may turn in a step: the blocks of S alone. -/
structure Fr (S : Nat → Prop) (w w' : World) : Prop where
  os : w'.os = w.os
  tape : w'.tape = w.tape
  output : w'.output = w.output
  size : w.heap.size ≤ w'.heap.size
  block : ∀ k, k < w.heap.size → ¬ S k → w'.heap[k]? = w.heap[k]?
theorem Fr.refl (S : Nat → Prop) (w : World) : Fr S w w := ⟨rfl, rfl, rfl, Nat.le_refl _, fun _ _ _ => rfl⟩
theorem Fr.trans {S : Nat → Prop} {a b c : World} (h : Fr S a b) (k : Fr S b c) : Fr S a c :=
  ⟨k.os.trans h.os, k.tape.trans h.tape, k.output.trans h.output, Nat.le_trans h.size k.size, fun i hi hs => (k.block i (Nat.lt_of_lt_of_le hi h.size) hs).trans (h.block i hi hs)⟩
theorem Fr.of {S : Nat → Prop} {a b : World} (h : Below a.heap.size a b) : Fr S a b := ⟨h.os, h.tape, h.output, h.size, fun k hk _ => h.block k hk⟩
theorem Fr.next {S : Nat → Prop} {a b c : World} (h : Fr S a b) (k : Below b.heap.size b c) : Fr S a c := h.trans (Fr.of k)
theorem Fr.wide {S T : Nat → Prop} {a b : World} (h : Fr S a b) (hs : ∀ k, S k → T k) : Fr T a b := ⟨h.os, h.tape, h.output, h.size, fun k hk ht => h.block k hk fun hS => ht (hs k hS)⟩
theorem Fr.setCell {S : Nat → Prop} {a b : World} (h : Fr S a b) {p : Addr} (hp : S p.block) (u : Value) : Fr S a (b.setCell p u) :=
  h.trans ⟨rfl, rfl, rfl, by simp [World.setCell], fun k _ hs => Below.heap_setCell _ _ _ _ (fun e => hs (e ▸ hp))⟩
theorem Fr.put {R : Nat} {a b : World} (h : Fr (· = R) a b) (i : Nat) (u : Value) : Fr (· = R) a (b.setCell ⟨R, i, none⟩ u) := h.setCell (p := ⟨R, i, none⟩) rfl u
theorem Fr.drew {S : Nat → Prop} {a b : World} (h : Fr S a b) : Fr S a b.drew := ⟨h.os, h.tape, h.output, h.size, h.block⟩
/-- Below a number that none of S is under, all is as it was. -/
theorem Fr.below {S : Nat → Prop} {w a b : World} (h : Fr S a b) (hw : Below w.heap.size w a) (hs : ∀ k, S k → w.heap.size ≤ k) : Below w.heap.size w b :=
  hw.trans ⟨h.os, h.tape, h.output, h.size, fun k hk => h.block k (Nat.lt_of_lt_of_le hk hw.size) fun hS => by have := hs k hS; omega⟩
theorem Fr.row {S : Nat → Prop} {a b : World} (h : Fr S a b) {k : Nat} {o : Obj} (hk : a.heap[k]? = some o) (hs : ¬ S k) : b.heap[k]? = some o := by
  have hl : k < a.heap.size := by
    rcases Nat.lt_or_ge k a.heap.size with h1 | h1
    · exact h1
    · rw [Array.getElem?_eq_none h1] at hk; cases hk
  exact (h.block k hl hs).trans hk
theorem Fr.cell {S : Nat → Prop} {a b : World} (h : Fr S a b) {p : Addr} {u : Value} (hk : a.cell? p = some u) (hs : ¬ S p.block) : b.cell? p = some u := by
  obtain ⟨q, o, sp⟩ := p
  have hsp : sp = none := by simpa using World.cell?_spot hk
  subst hsp
  exact (World.cell?_of_block (w := a) (h.block q (cell_lt hk) hs)).trans hk
theorem Rd.fr {S : Nat → Prop} {a b : World} {A : Option Addr} {xs : List Value} (h : Rd a A xs) (f : Fr S a b) (hs : ∀ k o, A = some ⟨k, o, none⟩ → 0 < xs.length → ¬ S k) : Rd b A xs := by
  intro j u hu
  obtain ⟨k, o, rfl, hc⟩ := h j u hu
  have hj : 0 < xs.length := Nat.lt_of_le_of_lt (Nat.zero_le _) (List.getElem?_eq_some_iff.1 hu).1
  exact ⟨k, o, rfl, f.cell hc (hs k o rfl hj)⟩

/-- A Reader: where it stands, and its bytes. -/
def RdrAt (w : World) (R t : Nat) (A : Option Addr) (n c : Nat) : Prop := w.heap[R]? = some (.cells #[.int .i64 t, .slice A n c] 98 (0, 0))
structure Rdr (w : World) (R t : Nat) (A : Option Addr) (l : List UInt8) (c : Nat) : Prop where
  row : RdrAt w R t A l.length c
  rd : Rd w A (bv l)
  le : t ≤ 8 * l.length
  len : l.length < 1152921504606846976
theorem RdrAt.c0 {w : World} {R t : Nat} {A : Option Addr} {n c : Nat} (h : RdrAt w R t A n c) : w.cell? ⟨R, 0, none⟩ = some (.int .i64 t) := cell_of_row w R 0 _ _ _ h
theorem RdrAt.c1 {w : World} {R t : Nat} {A : Option Addr} {n c : Nat} (h : RdrAt w R t A n c) : w.cell? ⟨R, 1, none⟩ = some (.slice A n c) := cell_of_row w R 1 _ _ _ h
theorem RdrAt.fz {w : World} {R t : Nat} {A : Option Addr} {n c : Nat} (h : RdrAt w R t A n c) : w.frozen? ⟨R, 0, none⟩ = false := frozen_of_row w R 0 _ _ h
theorem bv_cell {l : List UInt8} {j : Nat} {u : Value} (h : (bv l)[j]? = some u) : ∃ x : Nat, u = .int .u8 x := by
  obtain ⟨hj, rfl⟩ := List.getElem?_eq_some_iff.1 h
  exact ⟨l[j]'(by simpa [bv] using hj) |>.toNat, by simp [bv]⟩
/-- Bytes do not lie in a Reader's own block. -/
theorem Rdr.apart {w : World} {R t : Nat} {A A' : Option Addr} {n c : Nat} {l : List UInt8} (h : RdrAt w R t A n c) (hr : Rd w A' (bv l)) : ∀ k o, A' = some ⟨k, o, none⟩ → 0 < (bv l).length → ¬ k = R := by
  rintro k o rfl hl rfl
  obtain ⟨k', o', e, hc⟩ := hr 0 (bv l)[0] (List.getElem?_eq_getElem hl)
  injection e with e; injection e with e1 e2; subst e1 e2
  obtain ⟨x, hx⟩ := bv_cell (l := l) (List.getElem?_eq_getElem hl)
  rw [hx] at hc
  have hr2 := cell_of_row w k (o + 0) _ _ _ h
  rw [hr2] at hc
  match o, hc with
  | 0, hc => simp at hc
  | 1, hc => simp at hc
  | o + 2, hc => simp at hc
theorem Rdr.keep {S : Nat → Prop} {w w' : World} {R t : Nat} {A : Option Addr} {l : List UInt8} {c : Nat} (h : Rdr w R t A l c) (f : Fr S w w') (hR : ¬ S R) (hA : ∀ k o, A = some ⟨k, o, none⟩ → 0 < (bv l).length → ¬ S k) : Rdr w' R t A l c :=
  ⟨f.row h.row hR, h.rd.fr f hA, h.le, h.len⟩
theorem Rdr.below {w w' : World} {R t : Nat} {A : Option Addr} {l : List UInt8} {c : Nat} (h : Rdr w R t A l c) (b : Below w.heap.size w w') : Rdr w' R t A l c :=
  ⟨(Fr.of (S := fun _ => False) b).row h.row id, h.rd.below b, h.le, h.len⟩
/-- A Reader beside one that turns. -/
theorem Rdr.beside {w w' : World} {R t R' t' : Nat} {A A' : Option Addr} {l l' : List UInt8} {c c' : Nat} (h : Rdr w R t A l c) (h' : Rdr w R' t' A' l' c') (hne : R ≠ R') (f : Fr (· = R') w w') : Rdr w' R t A l c :=
  h.keep f hne (Rdr.apart h'.row h.rd)
/-- The Reader that is moved. -/
theorem Rdr.moved {w : World} {R t : Nat} {A : Option Addr} {l : List UInt8} {c : Nat} (h : Rdr w R t A l c) {w' : World} (f : Fr (· = R) w w') {t' : Nat} (h' : RdrAt w' R t' A l.length c) (hle : t' ≤ 8 * l.length) : Rdr w' R t' A l c :=
  ⟨h', h.rd.fr f (Rdr.apart h.row h.rd), hle, h.len⟩
end Go.Proofs.YtgohfbfdhdepnaaDoor
