/-
  Bits that are written: the bytes of bits, plain; the Writer.
-/
import Derived.Test.YtgohfbfdhdepnaaDoorRdd01
import Derived.Test.YtgohfbfdhdepnaaDoorTwoRows
namespace Go.Proofs.YtgohfbfdhdepnaaDoor
open Go.RowKit

theorem sg_zero {f : Nat → Nat} (t : Nat) : ∀ n, (∀ i, i < n → f (t + i) = 0) → sg f t n = 0
  | 0, _ => rfl
  | n + 1, h => by rw [sg, sg_zero t n fun i hi => h i (by omega), h n (by omega)]
/-- The byte of bits, with noughts behind them. -/
def byteAt (bs : List Nat) (i : Nat) : Nat := sg (fun t => bs.getD t 0) (8 * i) 8
def pkN (bs : List Nat) (m : Nat) : List Value := (List.range m).map fun i => .int .u8 (byteAt bs i : Nat)
theorem getD_lt {bs : List Nat} (h : ∀ b ∈ bs, b < 2) (i : Nat) : bs.getD i 0 < 2 := by
  rw [List.getD_eq_getElem?_getD]
  cases e : bs[i]? with
  | none => simp
  | some x => exact h x (List.mem_of_getElem? e)
theorem byteAt_lt {bs : List Nat} (h : ∀ b ∈ bs, b < 2) (i : Nat) : byteAt bs i < 256 := sg_lt (fun t => getD_lt h t) _ 8
theorem getD_out (bs : List Nat) (i : Nat) (h : bs.length ≤ i) : bs.getD i 0 = 0 := by
  rw [List.getD_eq_getElem?_getD, List.getElem?_eq_none h]; rfl
theorem getD_left (bs m : List Nat) (i : Nat) (h : i < bs.length) : (bs ++ m).getD i 0 = bs.getD i 0 := by
  rw [List.getD_eq_getElem?_getD, List.getD_eq_getElem?_getD, List.getElem?_append_left h]
theorem getD_right (bs m : List Nat) (i : Nat) : (bs ++ m).getD (bs.length + i) 0 = m.getD i 0 := by
  rw [List.getD_eq_getElem?_getD, List.getD_eq_getElem?_getD, List.getElem?_append_right (by omega)]
  congr 2; omega
theorem byteAt_none (bs : List Nat) (d : Nat) (h : bs.length ≤ 8 * d) : byteAt bs d = 0 := sg_zero _ _ fun i _ => getD_out _ _ (by omega)
theorem byteAt_same (bs m : List Nat) (i : Nat) (h : 8 * i + 8 ≤ bs.length) : byteAt (bs ++ m) i = byteAt bs i := sg_congr _ _ fun j hj => getD_left _ _ _ (by omega)
theorem byteAt_split (bs : List Nat) (d s : Nat) (hs : s ≤ 8) : byteAt bs d = sg (fun t => bs.getD t 0) (8 * d) s * 2 ^ (8 - s) + sg (fun t => bs.getD t 0) (8 * d + s) (8 - s) := by
  have h := sg_add (fun t => bs.getD t 0) (8 * d) s (8 - s)
  rw [show s + (8 - s) = 8 from by omega] at h
  exact h
theorem byteAt_new (bs m : List Nat) (d s k : Nat) (hl : bs.length = 8 * d + s) (hk : s + k ≤ 8) (hm : m.length = k) :
    byteAt (bs ++ m) d = byteAt bs d + sg (fun t => m.getD t 0) 0 k * 2 ^ (8 - s - k) ∧ byteAt bs d % 2 ^ (8 - s) = 0 := by
  have e1 := byteAt_split bs d s (by omega)
  have z1 : sg (fun t => bs.getD t 0) (8 * d + s) (8 - s) = 0 := sg_zero _ _ fun i _ => getD_out _ _ (by omega)
  rw [z1, Nat.add_zero] at e1
  have e2 := byteAt_split (bs ++ m) d s (by omega)
  have e3 : sg (fun t => (bs ++ m).getD t 0) (8 * d) s = sg (fun t => bs.getD t 0) (8 * d) s := sg_congr _ _ fun i hi => getD_left _ _ _ (by omega)
  have e4 := sg_add (fun t => (bs ++ m).getD t 0) (8 * d + s) k (8 - s - k)
  have z2 : sg (fun t => (bs ++ m).getD t 0) (8 * d + s + k) (8 - s - k) = 0 := sg_zero _ _ fun i _ => getD_out _ _ (by rw [List.length_append]; omega)
  have key : ∀ j, sg (fun t => (bs ++ m).getD t 0) (8 * d + s) j = sg (fun t => m.getD t 0) 0 j := by
    intro j
    induction j with
    | zero => rfl
    | succ j ih => rw [sg, sg, ih, Nat.zero_add, ← hl, getD_right]
  have e5 := key k
  rw [show k + (8 - s - k) = 8 - s from by omega, z2, Nat.add_zero, e5] at e4
  constructor
  · rw [e2, e3, e4, ← e1]
  · rw [e1]; exact Nat.mul_mod_left _ _

/-- The bits of a number. -/
def vb (v n : Nat) : List Nat := (List.range n).map fun i => v / 2 ^ (n - 1 - i) % 2
theorem vb_length (v n : Nat) : (vb v n).length = n := by simp [vb]
theorem vb_lt (v n : Nat) : ∀ b ∈ vb v n, b < 2 := by
  intro b hb
  simp only [vb, List.mem_map] at hb
  obtain ⟨i, -, rfl⟩ := hb
  exact Nat.mod_lt _ (by omega)
theorem vb_part (v n j : Nat) : ∀ k, j + k ≤ n → sg (fun t => (((vb v n).drop j).take k).getD t 0) 0 k = v / 2 ^ (n - j - k) % 2 ^ k := by
  have key : ∀ i K, i < K → j + K ≤ n → (((vb v n).drop j).take K).getD i 0 = v / 2 ^ (n - 1 - (j + i)) % 2 := by
    intro i K hi hK
    rw [List.getD_eq_getElem?_getD, List.getElem?_take, if_pos hi, List.getElem?_drop, List.getElem?_eq_getElem (by rw [vb_length]; omega)]
    simp [vb]
  have key2 : ∀ K, j + K ≤ n → ∀ k, k ≤ K → sg (fun t => (((vb v n).drop j).take K).getD t 0) 0 k = v / 2 ^ (n - j - k) % 2 ^ k := by
    intro K hK k
    induction k with
    | zero => intro _; simp [sg, Nat.mod_one]
    | succ k ih =>
      intro hk
      rw [sg, ih (by omega), Nat.zero_add, key k K (by omega) hK]
      have e3 : n - j - k = (n - j - (k + 1)) + 1 := by omega
      have e4 : n - 1 - (j + k) = n - j - (k + 1) := by omega
      rw [e3, e4, Nat.pow_succ, ← Nat.div_div_eq_div_mul]
      exact two_step _ _
  exact fun k hk => key2 k hk k (Nat.le_refl _)

theorem pkN_length (bs : List Nat) (m : Nat) : (pkN bs m).length = m := by simp [pkN]
theorem pkN_snoc (bs : List Nat) (d : Nat) (h : bs.length ≤ 8 * d) : pkN bs (d + 1) = pkN bs d ++ [.int .u8 0] := by
  rw [pkN, List.range_succ, List.map_append, pkN]
  simp [byteAt_none bs d h]
theorem pkN_get (bs : List Nat) (m d : Nat) (h : d < m) : (pkN bs m)[d]? = some (.int .u8 (byteAt bs d : Nat)) := by
  rw [List.getElem?_eq_getElem (by rw [pkN_length]; exact h)]
  simp [pkN]
theorem pkN_set (bs m : List Nat) (d : Nat) (h1 : 8 * d ≤ bs.length) : (pkN bs (d + 1)).set d (.int .u8 (byteAt (bs ++ m) d : Nat)) = pkN (bs ++ m) (d + 1) := by
  refine List.ext_getElem? fun i => ?_
  rw [List.getElem?_set]
  rcases Nat.lt_trichotomy i d with h | h | h
  · rw [if_neg (by omega), pkN_get _ _ _ (by omega), pkN_get _ _ _ (by omega), byteAt_same bs m i (by omega)]
  · subst h
    rw [if_pos rfl, if_pos (by rw [pkN_length]; omega), pkN_get _ _ _ (by omega)]
  · rw [if_neg (by omega), List.getElem?_eq_none (by rw [pkN_length]; omega), List.getElem?_eq_none (by rw [pkN_length]; omega)]
theorem pkN_one (bs : List Nat) (m : Nat) : ∀ u ∈ pkN bs m, u.oneCell' = true := by
  intro u hu
  simp only [pkN, List.mem_map] at hu
  obtain ⟨i, -, rfl⟩ := hu
  rfl

/-- A Writer: its bits, and the slice of its bytes. -/
structure Wtr (w : World) (R : Nat) (bs : List Nat) (u : Value) : Prop where
  row : w.heap[R]? = some (.cells #[.int .i64 bs.length, u] 87 (0, 0))
  own : w.ownsRow (R + 1) 5 1 u ((bs.length + 7) / 8) (pkN bs ((bs.length + 7) / 8))
  bit : ∀ b ∈ bs, b < 2
  len : bs.length ≤ 1000000000000
/-- The blocks of a Writer. -/
def WS (R : Nat) (u : Value) (k : Nat) : Prop := k = R ∨ u.ownBlock = some k
structure FrW (R : Nat) (u u' : Value) (w w' : World) : Prop where
  fr : Fr (WS R u) w w'
  nxt : u'.ownBlock = u.ownBlock ∨ ∃ k, u'.ownBlock = some k ∧ w.heap.size ≤ k
theorem FrW.refl (R : Nat) (u : Value) (w : World) : FrW R u u w w := ⟨Fr.refl _ _, .inl rfl⟩
theorem FrW.of {R : Nat} {u : Value} {w w' : World} (h : Below w.heap.size w w') : FrW R u u w w' := ⟨Fr.of h, .inl rfl⟩
theorem FrW.trans {R : Nat} {u u' u2 : Value} {a b c : World} (h : FrW R u u' a b) (k : FrW R u' u2 b c) : FrW R u u2 a c := by
  refine ⟨⟨k.fr.os.trans h.fr.os, k.fr.tape.trans h.fr.tape, k.fr.output.trans h.fr.output, Nat.le_trans h.fr.size k.fr.size, fun i hi hs => ?_⟩, ?_⟩
  · refine (k.fr.block i (Nat.lt_of_lt_of_le hi h.fr.size) ?_).trans (h.fr.block i hi hs)
    rintro (h1 | h1)
    · exact hs (.inl h1)
    · rcases h.nxt with e | ⟨g, e, hg⟩
      · exact hs (.inr (e.symm.trans h1))
      · rw [e] at h1; injection h1 with h1; omega
  · rcases k.nxt with e | ⟨g, e, hg⟩
    · rcases h.nxt with e2 | ⟨g, e2, hg⟩
      · exact .inl (e.trans e2)
      · exact .inr ⟨g, e.trans e2, hg⟩
    · exact .inr ⟨g, e, Nat.le_trans h.fr.size hg⟩
theorem FrW.next {R : Nat} {u u' : Value} {a b c : World} (h : FrW R u u' a b) (k : Below b.heap.size b c) : FrW R u u' a c := h.trans (FrW.of k)
theorem Wtr.up {w : World} {R : Nat} {bs : List Nat} {u : Value} (h : Wtr w R bs u) : ∀ k, WS R u k → R ≤ k := by
  rintro k (rfl | h1)
  · exact Nat.le_refl _
  · have := (h.own.lt k h1).1; omega
/-- What is under a Writer is as it was. -/
theorem FrW.below {R : Nat} {u u' : Value} {w a b : World} {bs : List Nat} (h : FrW R u u' a b) (hw : Below w.heap.size w a) (hW : Wtr a R bs u) (hR : w.heap.size ≤ R) : Below w.heap.size w b :=
  h.fr.below hw fun k hk => Nat.le_trans hR (hW.up k hk)
theorem Wtr.below {w w' : World} {R : Nat} {bs : List Nat} {u : Value} (h : Wtr w R bs u) (b : Below w.heap.size w w') : Wtr w' R bs u :=
  ⟨(Fr.of (S := fun _ => False) b).row h.row id, ownsRow_below h.own b, h.bit, h.len⟩
/-- A Writer beside what turns. -/
theorem Wtr.keep {S : Nat → Prop} {w w' : World} {R : Nat} {bs : List Nat} {u : Value} (h : Wtr w R bs u) (f : Fr S w w') (hs : ∀ k, WS R u k → ¬ S k) : Wtr w' R bs u := by
  refine ⟨f.row h.row (hs R (.inl rfl)), ⟨h.own.1, ?_⟩, h.bit, h.len⟩
  rcases h.own.2 with e | ⟨g, cap, cur, e, hb, hg, hn⟩
  · exact .inl e
  · refine .inr ⟨g, cap, cur, e, hb, f.row hg (hs g (.inr ?_)), hn⟩
    rw [e]; rfl
theorem Wtr.c0 {w : World} {R : Nat} {bs : List Nat} {u : Value} (h : Wtr w R bs u) : w.cell? ⟨R, 0, none⟩ = some (.int .i64 bs.length) := cell_of_row w R 0 _ _ _ h.row
theorem Wtr.c1 {w : World} {R : Nat} {bs : List Nat} {u : Value} (h : Wtr w R bs u) : w.cell? ⟨R, 1, none⟩ = some u := cell_of_row w R 1 _ _ _ h.row
theorem Wtr.fz {w : World} {R : Nat} {bs : List Nat} {u : Value} (h : Wtr w R bs u) (i : Nat) : w.frozen? ⟨R, i, none⟩ = false := frozen_of_row w R i _ _ h.row
end Go.Proofs.YtgohfbfdhdepnaaDoor
