/-
  Reader: Unary, Align.
  Reader: Align.
  Two rows of the call's own, appended to by turns: append of one element that tells where the row lies.
  Bits that are written: the bytes of bits, plain; the Writer.
  Writer.put.
  Writer.put: the walk.
  Writer: NewWriter, Len, Bytes, Put, Align, Unary.
-/
import Derived.Test.YtgohfbfdhdepnaaDoorHb1
import Derived.StillTailTactics
import Derived.OneCell
set_option linter.unusedSimpArgs false
set_option linter.unusedVariables false
namespace Go.Proofs.YtgohfbfdhdepnaaDoor
open Go.RowKit

/-- How many noughts there are ahead of a one, of so many bits. -/
def zs (f : Nat → Nat) : Nat → Nat → Nat
  | _, 0 => 0
  | t, m + 1 => if f t = 1 then 0 else 1 + zs f (t + 1) m
theorem zs_le (f : Nat → Nat) : ∀ m t, zs f t m ≤ m
  | 0, _ => Nat.le_refl _
  | m + 1, t => by
    rw [zs]
    split
    · omega
    · have := zs_le f m (t + 1); omega
theorem zs_skip (f : Nat → Nat) : ∀ k m p, (∀ i, i < k → f (p + i) ≠ 1) → k ≤ m → zs f p m = k + zs f (p + k) (m - k)
  | 0, m, p, _, _ => by simp
  | k + 1, 0, p, _, h => by omega
  | k + 1, m + 1, p, h, hk => by
    have h0 := h 0 (by omega)
    rw [Nat.add_zero] at h0
    rw [zs, if_neg h0, zs_skip f k m (p + 1) (fun i hi => by have := h (i + 1) (by omega); rwa [show p + (i + 1) = p + 1 + i from by omega] at this) (by omega), show p + 1 + k = p + (k + 1) from by omega, show m + 1 - (k + 1) = m - k from by omega]
    omega
def unE (l : List UInt8) (t : Nat) : Int := if zs (bitAt l) t (8 * l.length - t) < 8 * l.length - t then 0 else 11
def unV (l : List UInt8) (t : Nat) : Nat := if zs (bitAt l) t (8 * l.length - t) < 8 * l.length - t then zs (bitAt l) t (8 * l.length - t) else 0
def unT (l : List UInt8) (t : Nat) : Nat := if zs (bitAt l) t (8 * l.length - t) < 8 * l.length - t then t + zs (bitAt l) t (8 * l.length - t) + 1 else t
theorem bitAt_zero (l : List UInt8) (p i : Nat) (hp : p % 8 = 0) (hi : i < 8) (h0 : (l.getD (p / 8) 0).toNat = 0) : bitAt l (p + i) ≠ 1 := by
  rw [bitAt, show (p + i) / 8 = p / 8 from by omega, h0, Nat.zero_div]
  decide

end Go.Proofs.YtgohfbfdhdepnaaDoor

namespace Go.Proofs.YtgohfbfdhdepnaaDoor
open Go.RowKit

def alN (t : Nat) : Nat := (8 - t % 8) % 8
def alE (l : List UInt8) (t : Nat) : Int := if sg (bitAt l) t (alN t) = 0 then 0 else 12
def alV (l : List UInt8) (t : Nat) : Nat := if sg (bitAt l) t (alN t) = 0 then alN t else 0
def alT (l : List UInt8) (t : Nat) : Nat := if sg (bitAt l) t (alN t) = 0 then t + alN t else t

theorem u8_and_nat (a b : Nat) (ha : a < 256) (hb : b < 256) : bits .and .u8 (a : Int) (b : Int) = ((a &&& b : Nat) : Int) := by
  have hx : a &&& b < 2 ^ 8 := Nat.and_lt_two_pow _ (by omega)
  show IntKind.u8.wrap ((BitVec.ofInt 8 (a : Int) &&& BitVec.ofInt 8 (b : Int)).toNat : Int) = _
  rw [BitVec.toNat_and, ofInt_u8 a ha, ofInt_u8 b hb]
  simp only [IntKind.wrap, IntKind.bits, IntKind.signed]
  simp
  omega
theorem low_and (x n : Nat) (hx : x < 256) (hn : n < 8) : bits .and .u8 (x : Int) (((2 : Int) ^ n - 1) % 256) = ((x % 2 ^ n : Nat) : Int) := by
  obtain ⟨h1, h2⟩ := pow8 n (by omega)
  have h3 : 2 ^ n ≤ 2 ^ 7 := Nat.pow_le_pow_right (by omega) (by omega)
  have e1 : ((2 : Int) ^ n) = ((2 ^ n : Nat) : Int) := by simp
  have e7 : x &&& (2 ^ n - 1) = x % 2 ^ n := Nat.and_two_pow_sub_one_eq_mod _ _
  have e2 : (((2 ^ n : Nat) : Int) - 1) % 256 = ((2 ^ n - 1 : Nat) : Int) := by
    clear e1 e7
    generalize 2 ^ n = K at *
    omega
  rw [e1, e2, u8_and_nat x (2 ^ n - 1) hx (by omega), e7]
end Go.Proofs.YtgohfbfdhdepnaaDoor

namespace Go.Proofs.YtgohfbfdhdepnaaDoor
open Go.RowKit

theorem apart_symm {v v2 : Value} (h : v2.ownBlock = none ∨ v2.ownBlock ≠ v.ownBlock) : v.ownBlock = none ∨ v.ownBlock ≠ v2.ownBlock := by
  rcases h with h | h
  · cases h2 : v.ownBlock with
    | none => exact .inl rfl
    | some k => right; rw [h]; simp
  · exact .inr (Ne.symm h)

theorem row_kept {W w1 : World} {o : Obj} {v v' v2 : Value} {base s2 n2 : Nat} {e2 : TypeId} {xs2 : List Value} (hown2 : W.ownsRow base e2 s2 v2 n2 xs2) (hap : v2.ownBlock = none ∨ v2.ownBlock ≠ v.ownBlock)
    (hgrow : (W.alloc o).grownBy w1 v.ownBlock) (hat : v'.ownBlock = v.ownBlock ∨ v'.ownBlock = some (W.alloc o).heap.size) : w1.ownsRow base e2 s2 v2 n2 xs2 ∧ (v2.ownBlock = none ∨ v2.ownBlock ≠ v'.ownBlock) := by
  refine ⟨(hown2.alloc o).kept hgrow hap, ?_⟩
  rcases hap with h | h
  · exact .inl h
  · rcases hat with h' | h'
    · rw [h']; exact .inr h
    · rw [h']
      right
      intro e
      have := ((hown2.alloc o).lt _ e).2
      omega

/-- As app1; and where the row lies. -/
theorem app1o {P : Program} {w0 W : World} {ops : Array Oper} {rest : List Oper} {o : Oper} {a : Act} {Q : Exit → Act → World → Prop} (hgd : o.guard = none) (s x : Operand) (t : TypeId)
    (ho : o.op = .call { callee := .builtin .append, args := #[s, x], argTypes := #[t, t] })
    {base : Nat} {e : TypeId} {z : Value} {size bytes : Nat} (ht : P.underlying t = some (.slice e)) (hi : (P.info? e).map (fun i => (i.zero, i.size, i.bytes)) = some (some z, size, bytes)) (hzs : z.cells.size = size) (hsz : 0 < size)
    {v : Value} {n : Nat} {xs : List Value} (hs : a.eval s = v) (hown : W.ownsRow base e size v n xs) (hB : w0.heap.size ≤ base) (hbW : base ≤ W.heap.size) (hb : Below w0.heap.size w0 W)
    {arr : Array Value} (hx : a.eval x = .slice (some ⟨W.heap.size, 0, none⟩) 1 1) (hl : arr.size = size) (h1 : ∀ u ∈ arr.toList, u.oneCell' = true)
    (hbytes : (n + 1) * bytes ≤ 140737488355328) (h63 : n + 1 ≤ maxLen)
    (h : ∀ v' w1, w1.ownsRow base e size v' (n + 1) (xs ++ arr.toList) → Below w0.heap.size w0 w1 → base ≤ w1.heap.size → (W.alloc (.cells arr e)).grownBy w1 v.ownBlock → (v'.ownBlock = v.ownBlock ∨ v'.ownBlock = some (W.alloc (.cells arr e)).heap.size) → wpList P ops Q rest (a.put o.dst v') w1) :
    wpList P ops Q (o :: rest) a (W.alloc (.cells arr e)) := by
  obtain ⟨i, hi, hz0, hz1, hz2⟩ := info_parts hi
  refine wpList_append_own_at (W.alloc (.cells arr e)) hgd s x t ho base e i z size bytes ht hi hz0 hz1 hz2 hzs hsz v n xs hs (hown.alloc _) ⟨W.heap.size, 0, none⟩ 1 1 arr.toList hx (by simp [hl]) ?_ h1 h63 hbytes (by simp; omega) ?_
  · intro j u hu
    have : (⟨W.heap.size, 0, none⟩ : Addr).add j = ⟨W.heap.size, j, none⟩ := by unfold Addr.add; split <;> simp_all
    rw [this, cell_of_row _ W.heap.size j arr e (0, 0) (heap_alloc_new W _)]
    simpa using hu
  · intro v' w1 hown1 hgrow _ hat
    refine h v' w1 hown1 ((hb.alloc (by omega) _).grown hgrow (by simp; omega) ?_) ?_ hgrow hat
    · intro k hk
      have := (hown.lt k hk).1
      omega
    · have := hgrow.size; simp at this; omega
end Go.Proofs.YtgohfbfdhdepnaaDoor

namespace Go.Proofs.YtgohfbfdhdepnaaDoor
open Go.RowKit

theorem sg_zero {f : Nat → Nat} (t : Nat) : ∀ n, (∀ i, i < n → f (t + i) = 0) → sg f t n = 0
  | 0, _ => rfl
  | n + 1, h => by rw [sg, sg_zero t n fun i hi => h i (by omega), h n (by omega)]
/-- The byte of bits, with noughts behind them. -/
def byteAt (bs : List Nat) (i : Nat) : Nat := sg (fun t => bs.getD t 0) (8 * i) 8
def pkN (bs : List Nat) (m : Nat) : List Value := (List.range m).map fun i => .int .u8 (byteAt bs i : Nat)
theorem getD_lt {bs : List Nat} (h : ∀ b ∈ bs, b < 2) (i : Nat) : bs.getD i 0 < 2 := by
  rw [List.getD_eq_getElem?_getD]
  cases e : bs[i]? with
  | none => simp
  | some x => exact h x (List.mem_of_getElem? e)
theorem byteAt_lt {bs : List Nat} (h : ∀ b ∈ bs, b < 2) (i : Nat) : byteAt bs i < 256 := sg_lt (fun t => getD_lt h t) _ 8
theorem getD_out (bs : List Nat) (i : Nat) (h : bs.length ≤ i) : bs.getD i 0 = 0 := by
  rw [List.getD_eq_getElem?_getD, List.getElem?_eq_none h]; rfl
theorem getD_left (bs m : List Nat) (i : Nat) (h : i < bs.length) : (bs ++ m).getD i 0 = bs.getD i 0 := by
  rw [List.getD_eq_getElem?_getD, List.getD_eq_getElem?_getD, List.getElem?_append_left h]
theorem getD_right (bs m : List Nat) (i : Nat) : (bs ++ m).getD (bs.length + i) 0 = m.getD i 0 := by
  rw [List.getD_eq_getElem?_getD, List.getD_eq_getElem?_getD, List.getElem?_append_right (by omega)]
  congr 2; omega
theorem byteAt_none (bs : List Nat) (d : Nat) (h : bs.length ≤ 8 * d) : byteAt bs d = 0 := sg_zero _ _ fun i _ => getD_out _ _ (by omega)
theorem byteAt_same (bs m : List Nat) (i : Nat) (h : 8 * i + 8 ≤ bs.length) : byteAt (bs ++ m) i = byteAt bs i := sg_congr _ _ fun j hj => getD_left _ _ _ (by omega)
theorem byteAt_split (bs : List Nat) (d s : Nat) (hs : s ≤ 8) : byteAt bs d = sg (fun t => bs.getD t 0) (8 * d) s * 2 ^ (8 - s) + sg (fun t => bs.getD t 0) (8 * d + s) (8 - s) := by
  have h := sg_add (fun t => bs.getD t 0) (8 * d) s (8 - s)
  rw [show s + (8 - s) = 8 from by omega] at h
  exact h
theorem byteAt_new (bs m : List Nat) (d s k : Nat) (hl : bs.length = 8 * d + s) (hk : s + k ≤ 8) (hm : m.length = k) :
    byteAt (bs ++ m) d = byteAt bs d + sg (fun t => m.getD t 0) 0 k * 2 ^ (8 - s - k) ∧ byteAt bs d % 2 ^ (8 - s) = 0 := by
  have e1 := byteAt_split bs d s (by omega)
  have z1 : sg (fun t => bs.getD t 0) (8 * d + s) (8 - s) = 0 := sg_zero _ _ fun i _ => getD_out _ _ (by omega)
  rw [z1, Nat.add_zero] at e1
  have e2 := byteAt_split (bs ++ m) d s (by omega)
  have e3 : sg (fun t => (bs ++ m).getD t 0) (8 * d) s = sg (fun t => bs.getD t 0) (8 * d) s := sg_congr _ _ fun i hi => getD_left _ _ _ (by omega)
  have e4 := sg_add (fun t => (bs ++ m).getD t 0) (8 * d + s) k (8 - s - k)
  have z2 : sg (fun t => (bs ++ m).getD t 0) (8 * d + s + k) (8 - s - k) = 0 := sg_zero _ _ fun i _ => getD_out _ _ (by rw [List.length_append]; omega)
  have key : ∀ j, sg (fun t => (bs ++ m).getD t 0) (8 * d + s) j = sg (fun t => m.getD t 0) 0 j := by
    intro j
    induction j with
    | zero => rfl
    | succ j ih => rw [sg, sg, ih, Nat.zero_add, ← hl, getD_right]
  have e5 := key k
  rw [show k + (8 - s - k) = 8 - s from by omega, z2, Nat.add_zero, e5] at e4
  constructor
  · rw [e2, e3, e4, ← e1]
  · rw [e1]; exact Nat.mul_mod_left _ _

/-- The bits of a number. -/
def vb (v n : Nat) : List Nat := (List.range n).map fun i => v / 2 ^ (n - 1 - i) % 2
theorem vb_length (v n : Nat) : (vb v n).length = n := by simp [vb]
theorem vb_lt (v n : Nat) : ∀ b ∈ vb v n, b < 2 := by
  intro b hb
  simp only [vb, List.mem_map] at hb
  obtain ⟨i, -, rfl⟩ := hb
  exact Nat.mod_lt _ (by omega)
theorem vb_part (v n j : Nat) : ∀ k, j + k ≤ n → sg (fun t => (((vb v n).drop j).take k).getD t 0) 0 k = v / 2 ^ (n - j - k) % 2 ^ k := by
  have key : ∀ i K, i < K → j + K ≤ n → (((vb v n).drop j).take K).getD i 0 = v / 2 ^ (n - 1 - (j + i)) % 2 := by
    intro i K hi hK
    rw [List.getD_eq_getElem?_getD, List.getElem?_take, if_pos hi, List.getElem?_drop, List.getElem?_eq_getElem (by rw [vb_length]; omega)]
    simp [vb]
  have key2 : ∀ K, j + K ≤ n → ∀ k, k ≤ K → sg (fun t => (((vb v n).drop j).take K).getD t 0) 0 k = v / 2 ^ (n - j - k) % 2 ^ k := by
    intro K hK k
    induction k with
    | zero => intro _; simp [sg, Nat.mod_one]
    | succ k ih =>
      intro hk
      rw [sg, ih (by omega), Nat.zero_add, key k K (by omega) hK]
      have e3 : n - j - k = (n - j - (k + 1)) + 1 := by omega
      have e4 : n - 1 - (j + k) = n - j - (k + 1) := by omega
      rw [e3, e4, Nat.pow_succ, ← Nat.div_div_eq_div_mul]
      exact two_step _ _
  exact fun k hk => key2 k hk k (Nat.le_refl _)

theorem pkN_length (bs : List Nat) (m : Nat) : (pkN bs m).length = m := by simp [pkN]
theorem pkN_snoc (bs : List Nat) (d : Nat) (h : bs.length ≤ 8 * d) : pkN bs (d + 1) = pkN bs d ++ [.int .u8 0] := by
  rw [pkN, List.range_succ, List.map_append, pkN]
  simp [byteAt_none bs d h]
theorem pkN_get (bs : List Nat) (m d : Nat) (h : d < m) : (pkN bs m)[d]? = some (.int .u8 (byteAt bs d : Nat)) := by
  rw [List.getElem?_eq_getElem (by rw [pkN_length]; exact h)]
  simp [pkN]
theorem pkN_set (bs m : List Nat) (d : Nat) (h1 : 8 * d ≤ bs.length) : (pkN bs (d + 1)).set d (.int .u8 (byteAt (bs ++ m) d : Nat)) = pkN (bs ++ m) (d + 1) := by
  refine List.ext_getElem? fun i => ?_
  rw [List.getElem?_set]
  rcases Nat.lt_trichotomy i d with h | h | h
  · rw [if_neg (by omega), pkN_get _ _ _ (by omega), pkN_get _ _ _ (by omega), byteAt_same bs m i (by omega)]
  · subst h
    rw [if_pos rfl, if_pos (by rw [pkN_length]; omega), pkN_get _ _ _ (by omega)]
  · rw [if_neg (by omega), List.getElem?_eq_none (by rw [pkN_length]; omega), List.getElem?_eq_none (by rw [pkN_length]; omega)]
theorem pkN_one (bs : List Nat) (m : Nat) : ∀ u ∈ pkN bs m, u.oneCell' = true := by
  intro u hu
  simp only [pkN, List.mem_map] at hu
  obtain ⟨i, -, rfl⟩ := hu
  rfl

/-- A Writer: its bits, and the slice of its bytes. -/
structure Wtr (w : World) (R : Nat) (bs : List Nat) (u : Value) : Prop where
  row : w.heap[R]? = some (.cells #[.int .i64 bs.length, u] 87 (0, 0))
  own : w.ownsRow (R + 1) 5 1 u ((bs.length + 7) / 8) (pkN bs ((bs.length + 7) / 8))
  bit : ∀ b ∈ bs, b < 2
  len : bs.length ≤ 1000000000000
/-- The blocks of a Writer. -/
def WS (R : Nat) (u : Value) (k : Nat) : Prop := k = R ∨ u.ownBlock = some k
structure FrW (R : Nat) (u u' : Value) (w w' : World) : Prop where
  fr : Fr (WS R u) w w'
  nxt : u'.ownBlock = u.ownBlock ∨ ∃ k, u'.ownBlock = some k ∧ w.heap.size ≤ k
theorem FrW.refl (R : Nat) (u : Value) (w : World) : FrW R u u w w := ⟨Fr.refl _ _, .inl rfl⟩
theorem FrW.of {R : Nat} {u : Value} {w w' : World} (h : Below w.heap.size w w') : FrW R u u w w' := ⟨Fr.of h, .inl rfl⟩
theorem FrW.trans {R : Nat} {u u' u2 : Value} {a b c : World} (h : FrW R u u' a b) (k : FrW R u' u2 b c) : FrW R u u2 a c := by
  refine ⟨⟨k.fr.os.trans h.fr.os, k.fr.tape.trans h.fr.tape, k.fr.output.trans h.fr.output, Nat.le_trans h.fr.size k.fr.size, fun i hi hs => ?_⟩, ?_⟩
  · refine (k.fr.block i (Nat.lt_of_lt_of_le hi h.fr.size) ?_).trans (h.fr.block i hi hs)
    rintro (h1 | h1)
    · exact hs (.inl h1)
    · rcases h.nxt with e | ⟨g, e, hg⟩
      · exact hs (.inr (e.symm.trans h1))
      · rw [e] at h1; injection h1 with h1; omega
  · rcases k.nxt with e | ⟨g, e, hg⟩
    · rcases h.nxt with e2 | ⟨g, e2, hg⟩
      · exact .inl (e.trans e2)
      · exact .inr ⟨g, e.trans e2, hg⟩
    · exact .inr ⟨g, e, Nat.le_trans h.fr.size hg⟩
theorem FrW.next {R : Nat} {u u' : Value} {a b c : World} (h : FrW R u u' a b) (k : Below b.heap.size b c) : FrW R u u' a c := h.trans (FrW.of k)
theorem Wtr.up {w : World} {R : Nat} {bs : List Nat} {u : Value} (h : Wtr w R bs u) : ∀ k, WS R u k → R ≤ k := by
  rintro k (rfl | h1)
  · exact Nat.le_refl _
  · have := (h.own.lt k h1).1; omega
/-- What is under a Writer is as it was. -/
theorem FrW.below {R : Nat} {u u' : Value} {w a b : World} {bs : List Nat} (h : FrW R u u' a b) (hw : Below w.heap.size w a) (hW : Wtr a R bs u) (hR : w.heap.size ≤ R) : Below w.heap.size w b :=
  h.fr.below hw fun k hk => Nat.le_trans hR (hW.up k hk)
theorem Wtr.below {w w' : World} {R : Nat} {bs : List Nat} {u : Value} (h : Wtr w R bs u) (b : Below w.heap.size w w') : Wtr w' R bs u :=
  ⟨(Fr.of (S := fun _ => False) b).row h.row id, ownsRow_below h.own b, h.bit, h.len⟩
/-- A Writer beside what turns. -/
theorem Wtr.keep {S : Nat → Prop} {w w' : World} {R : Nat} {bs : List Nat} {u : Value} (h : Wtr w R bs u) (f : Fr S w w') (hs : ∀ k, WS R u k → ¬ S k) : Wtr w' R bs u := by
  refine ⟨f.row h.row (hs R (.inl rfl)), ⟨h.own.1, ?_⟩, h.bit, h.len⟩
  rcases h.own.2 with e | ⟨g, cap, cur, e, hb, hg, hn⟩
  · exact .inl e
  · refine .inr ⟨g, cap, cur, e, hb, f.row hg (hs g (.inr ?_)), hn⟩
    rw [e]; rfl
theorem Wtr.c0 {w : World} {R : Nat} {bs : List Nat} {u : Value} (h : Wtr w R bs u) : w.cell? ⟨R, 0, none⟩ = some (.int .i64 bs.length) := cell_of_row w R 0 _ _ _ h.row
theorem Wtr.c1 {w : World} {R : Nat} {bs : List Nat} {u : Value} (h : Wtr w R bs u) : w.cell? ⟨R, 1, none⟩ = some u := cell_of_row w R 1 _ _ _ h.row
theorem Wtr.fz {w : World} {R : Nat} {bs : List Nat} {u : Value} (h : Wtr w R bs u) (i : Nat) : w.frozen? ⟨R, i, none⟩ = false := frozen_of_row w R i _ _ h.row
end Go.Proofs.YtgohfbfdhdepnaaDoor

namespace Go.Proofs.YtgohfbfdhdepnaaDoor
open Go.RowKit

/-- As app1, with the growth told. -/
theorem app1g {P : Program} {W : World} {ops : Array Oper} {rest : List Oper} {o : Oper} {a : Act} {Q : Exit → Act → World → Prop} (hgd : o.guard = none) (s x : Operand) (t : TypeId)
    (ho : o.op = .call { callee := .builtin .append, args := #[s, x], argTypes := #[t, t] })
    {base : Nat} {e : TypeId} {z : Value} {size bytes : Nat} (ht : P.underlying t = some (.slice e)) (hi : (P.info? e).map (fun i => (i.zero, i.size, i.bytes)) = some (some z, size, bytes)) (hzs : z.cells.size = size) (hsz : 0 < size)
    {v : Value} {n : Nat} {xs : List Value} (hs : a.eval s = v) (hown : W.ownsRow base e size v n xs) (hbW : base ≤ W.heap.size)
    {arr : Array Value} (hx : a.eval x = .slice (some ⟨W.heap.size, 0, none⟩) 1 1) (hl : arr.size = size) (h1 : ∀ u ∈ arr.toList, u.oneCell' = true)
    (hbytes : (n + 1) * bytes ≤ 140737488355328) (h63 : n + 1 ≤ maxLen)
    (h : ∀ v' w1, w1.ownsRow base e size v' (n + 1) (xs ++ arr.toList) → W.grownBy w1 v.ownBlock → (v'.ownBlock = v.ownBlock ∨ ∃ k, v'.ownBlock = some k ∧ W.heap.size ≤ k) → wpList P ops Q rest (a.put o.dst v') w1) :
    wpList P ops Q (o :: rest) a (W.alloc (.cells arr e)) := by
  obtain ⟨i, hi, hz0, hz1, hz2⟩ := info_parts hi
  refine wpList_append_own_at (W.alloc (.cells arr e)) hgd s x t ho base e i z size bytes ht hi hz0 hz1 hz2 hzs hsz v n xs hs (hown.alloc _) ⟨W.heap.size, 0, none⟩ 1 1 arr.toList hx (by simp [hl]) ?_ h1 h63 hbytes (by simp; omega) ?_
  · intro j u hu
    have : (⟨W.heap.size, 0, none⟩ : Addr).add j = ⟨W.heap.size, j, none⟩ := by unfold Addr.add; split <;> simp_all
    rw [this, cell_of_row _ W.heap.size j arr e (0, 0) (heap_alloc_new W _)]
    simpa using hu
  · intro v' w1 hown1 hgrow _ hat
    have hg0 := World.grownBy_alloc W (.cells arr e) v.ownBlock
    refine h v' w1 hown1 ⟨hgrow.os.trans hg0.os, hgrow.tape.trans hg0.tape, hgrow.output.trans hg0.output, Nat.le_trans hg0.size hgrow.size, fun k hk hne => (hgrow.block k (Nat.lt_of_lt_of_le hk hg0.size) hne).trans (hg0.block k hk hne)⟩ ?_
    rcases hat with e | e
    · exact .inl e
    · exact .inr ⟨_, e, by simp⟩

theorem form01 {w : World} {base size n : Nat} {e : TypeId} {v : Value} {xs : List Value} (h : w.ownsRow base e size v n xs) (hn : 0 < n) : ∃ g cap, v = .slice (some ⟨g, 0, none⟩) n cap := by
  rcases h.2 with ⟨_, h0⟩ | ⟨g, cap, cur, h1, _⟩
  · omega
  · exact ⟨g, cap, h1⟩
/-- A Writer in the midst of put: its bytes reach over the byte that is written. -/
structure Mid (w : World) (R p d : Nat) (u : Value) (bs : List Nat) : Prop where
  row : w.heap[R]? = some (.cells #[.int .i64 p, u] 87 (0, 0))
  own : w.ownsRow (R + 1) 5 1 u (d + 1) (pkN bs (d + 1))
theorem Mid.c0 {w : World} {R p d : Nat} {u : Value} {bs : List Nat} (h : Mid w R p d u bs) : w.cell? ⟨R, 0, none⟩ = some (.int .i64 p) := cell_of_row w R 0 _ _ _ h.row
theorem Mid.c1 {w : World} {R p d : Nat} {u : Value} {bs : List Nat} (h : Mid w R p d u bs) : w.cell? ⟨R, 1, none⟩ = some u := cell_of_row w R 1 _ _ _ h.row
theorem Mid.fz {w : World} {R p d : Nat} {u : Value} {bs : List Nat} (h : Mid w R p d u bs) (i : Nat) : w.frozen? ⟨R, i, none⟩ = false := frozen_of_row w R i _ _ h.row
theorem Mid.below {w w' : World} {R p d : Nat} {u : Value} {bs : List Nat} (h : Mid w R p d u bs) (b : Below w.heap.size w w') : Mid w' R p d u bs :=
  ⟨(Fr.of (S := fun _ => False) b).row h.row id, ownsRow_below h.own b⟩
theorem Mid.apart {w : World} {R p d : Nat} {u : Value} {bs : List Nat} (h : Mid w R p d u bs) : u.ownBlock ≠ some R := fun e => by have := (h.own.lt R e).1; omega
theorem Wtr.apart {w : World} {R : Nat} {bs : List Nat} {u : Value} (h : Wtr w R bs u) : u.ownBlock ≠ some R := fun e => by have := (h.own.lt R e).1; omega
/-- Between bytes: the row with a nought behind it. -/
theorem Wtr.mid0 {w w1 : World} {R d : Nat} {bs : List Nat} {u u1 : Value} (h : Wtr w R bs u) (hl : bs.length = 8 * d) (own1 : w1.ownsRow (R + 1) 5 1 u1 (d + 1) (pkN bs d ++ [.int .u8 0])) (hg : w.grownBy w1 u.ownBlock)
    (hat : u1.ownBlock = u.ownBlock ∨ ∃ k, u1.ownBlock = some k ∧ w.heap.size ≤ k) : Mid (w1.setCell ⟨R, 1, none⟩ u1) R bs.length d u1 bs ∧ FrW R u u1 w (w1.setCell ⟨R, 1, none⟩ u1) := by
  have hR : R < w.heap.size := (Array.getElem?_eq_some_iff.1 h.row).1
  rw [← pkN_snoc bs d (by omega)] at own1
  have hrow : w1.heap[R]? = some (.cells #[.int .i64 bs.length, u] 87 (0, 0)) := (hg.block R hR (fun e => h.apart e.symm)).trans h.row
  have hne : u1.ownBlock ≠ some R := fun e => by have := (own1.lt R e).1; omega
  refine ⟨⟨heap_setCell_same w1 R 1 _ _ u1 hrow, ownsRow_setCell_other own1 hne _⟩, ⟨?_, hat⟩⟩
  have f1 : Fr (WS R u) w w1 := ⟨hg.os, hg.tape, hg.output, hg.size, fun k hk hs => hg.block k hk (fun e => hs (.inr e.symm))⟩
  exact f1.setCell (p := ⟨R, 1, none⟩) (.inl rfl) _
theorem Wtr.mid {w : World} {R d : Nat} {bs : List Nat} {u : Value} (h : Wtr w R bs u) (h1 : 8 * d < bs.length) (h2 : bs.length < 8 * d + 8) : Mid w R bs.length d u bs :=
  ⟨h.row, by have := h.own; rwa [show (bs.length + 7) / 8 = d + 1 from by omega] at this⟩
/-- Behind the store of the byte and that of the place. -/
theorem Mid.done {w : World} {R d g cap : Nat} {bs m : List Nat} (h : Mid w R bs.length d (.slice (some ⟨g, 0, none⟩) (d + 1) cap) bs) (h1 : 8 * d ≤ bs.length) (hm : bs.length + m.length ≤ 8 * d + 8) (hm0 : 0 < m.length) (hb : ∀ b ∈ bs, b < 2) (hbm : ∀ b ∈ m, b < 2) (hle : bs.length + m.length ≤ 1000000000000) :
    Wtr ((w.setCell ⟨g, d, none⟩ (.int .u8 (byteAt (bs ++ m) d : Nat))).setCell ⟨R, 0, none⟩ (.int .i64 ((bs.length + m.length : Nat) : Int))) R (bs ++ m) (.slice (some ⟨g, 0, none⟩) (d + 1) cap) ∧
    FrW R (.slice (some ⟨g, 0, none⟩) (d + 1) cap) (.slice (some ⟨g, 0, none⟩) (d + 1) cap) w ((w.setCell ⟨g, d, none⟩ (.int .u8 (byteAt (bs ++ m) d : Nat))).setCell ⟨R, 0, none⟩ (.int .i64 ((bs.length + m.length : Nat) : Int))) := by
  have hgR : g ≠ R := fun e => h.apart (by subst e; rfl)
  obtain ⟨own1, hg1⟩ := h.own.stored d (.int .u8 (byteAt (bs ++ m) d : Nat))
  rw [pkN_set bs m d h1] at own1
  have hR : R < w.heap.size := (Array.getElem?_eq_some_iff.1 h.row).1
  have hrow : (w.setCell ⟨g, d, none⟩ (.int .u8 (byteAt (bs ++ m) d : Nat))).heap[R]? = _ := (hg1.block R hR (fun e => by injection e with e; exact hgR e.symm)).trans h.row
  have hl : (bs ++ m).length = bs.length + m.length := List.length_append
  refine ⟨⟨?_, ?_, ?_, by rw [hl]; exact hle⟩, ⟨?_, .inl rfl⟩⟩
  · rw [hl]; exact heap_setCell_same _ R 0 _ _ _ hrow
  · rw [hl, show (bs.length + m.length + 7) / 8 = d + 1 from by omega]
    exact ownsRow_setCell_other own1 (by intro e; exact h.apart e) _
  · intro b hb2
    rcases List.mem_append.1 hb2 with h2 | h2
    · exact hb b h2
    · exact hbm b h2
  · exact ((Fr.refl _ w).setCell (p := ⟨g, d, none⟩) (.inr rfl) _).setCell (p := ⟨R, 0, none⟩) (.inl rfl) _
theorem u8_or_nat (a b : Nat) (ha : a < 256) (hb : b < 256) : bits .or .u8 (a : Int) (b : Int) = ((a ||| b : Nat) : Int) := by
  have hx : a ||| b < 2 ^ 8 := Nat.or_lt_two_pow (by omega) (by omega)
  show IntKind.u8.wrap ((BitVec.ofInt 8 (a : Int) ||| BitVec.ofInt 8 (b : Int)).toNat : Int) = _
  rw [BitVec.toNat_or, ofInt_u8 a ha, ofInt_u8 b hb]
  simp only [IntKind.wrap, IntKind.bits, IntKind.signed]
  simp
  omega
theorem wrap_i64_nat (K : Nat) (h : K < 9223372036854775808) : IntKind.i64.wrap (K : Int) = K := by rw [IntKind.wrap_i64]; omega
theorem wrap_less_i (K : Nat) (h1 : 1 ≤ K) (h : K < 9223372036854775808) : IntKind.i64.wrap ((K : Int) - 1) = ((K - 1 : Nat) : Int) := by rw [IntKind.wrap_i64]; omega
theorem wrap_u8_nat (K : Nat) (h : K < 256) : IntKind.u8.wrap (K : Int) = K := by
  simp only [IntKind.wrap, IntKind.bits, IntKind.signed]
  simp
  omega
/-- A step of put: the bits that go into one byte. -/
theorem put_step {B : List Nat} {v n j k s d r a M : Nat} {v2 : Int} (hB : ∀ b ∈ B, b < 2) (hl : B.length = 8 * d + s) (hk : s + k + r = 8) (ha : n - j - k = a) (hv : v < 281474976710656) (hjk : j + k ≤ n) (hv2 : v2 = ((v / 2 ^ a : Nat) : Int)) (hM : M = 2 ^ k - 1) :
    ∃ y z : Nat, z = y * 2 ^ r ∧ bits .and .i64 v2 (M : Int) = y ∧ IntKind.i64.wrap ((y : Int) * 2 ^ r) = z ∧ wrap64 ((y : Int) * 2 ^ r) = z ∧ IntKind.u8.wrap (z : Int) = z ∧ bits .or .u8 ((byteAt B d : Nat) : Int) (z : Int) = ((byteAt (B ++ ((vb v n).drop j).take k) d : Nat) : Int) := by
  obtain ⟨h1, h2⟩ := pow8 k (by omega)
  have hml : (((vb v n).drop j).take k).length = k := by rw [List.length_take, List.length_drop, vb_length]; omega
  obtain ⟨e1, e2⟩ := byteAt_new B (((vb v n).drop j).take k) d s k hl (by omega) hml
  rw [vb_part v n j k hjk, ha, show 8 - s - k = r from by omega] at e1
  have hy : v / 2 ^ a % 2 ^ k < 2 ^ k := Nat.mod_lt _ (by omega)
  have hz : v / 2 ^ a % 2 ^ k * 2 ^ r < 2 ^ (8 - s) := by
    have h3 : v / 2 ^ a % 2 ^ k * 2 ^ r < 2 ^ k * 2 ^ r := Nat.mul_lt_mul_of_pos_right hy (Nat.pow_pos (by omega))
    rwa [← Nat.pow_add, show k + r = 8 - s from by omega] at h3
  have h256 : 2 ^ (8 - s) ≤ 256 := (pow8 (8 - s) (by omega)).2
  have hA := byteAt_lt hB d
  have h6 : v / 2 ^ a ≤ v := Nat.div_le_self _ _
  have e7 : (v / 2 ^ a) &&& (2 ^ k - 1) = v / 2 ^ a % 2 ^ k := Nat.and_two_pow_sub_one_eq_mod _ _
  have hor : byteAt B d ||| v / 2 ^ a % 2 ^ k * 2 ^ r = byteAt B d + v / 2 ^ a % 2 ^ k * 2 ^ r := by
    have e3 : byteAt B d = 2 ^ (8 - s) * (byteAt B d / 2 ^ (8 - s)) := by
      have := Nat.div_add_mod (byteAt B d) (2 ^ (8 - s))
      rw [e2, Nat.add_zero] at this; exact this.symm
    rw [e3]
    exact (Nat.two_pow_add_eq_or_of_lt hz _).symm
  refine ⟨v / 2 ^ a % 2 ^ k, v / 2 ^ a % 2 ^ k * 2 ^ r, rfl, ?_, ?_, ?_, ?_, ?_⟩
  · rw [hv2, hM, i64_and_nat (v / 2 ^ a) (2 ^ k - 1) (by clear e7 hz hy hor e1 e2; omega) (by clear e7 hz hy hor e1 e2; omega), e7]
  · have e4 : ((v / 2 ^ a % 2 ^ k : Nat) : Int) * 2 ^ r = ((v / 2 ^ a % 2 ^ k * 2 ^ r : Nat) : Int) := by simp
    rw [e4, wrap_i64_nat _ (by clear e7 hor e1 e2 e4; omega)]
  · have e4 : ((v / 2 ^ a % 2 ^ k : Nat) : Int) * 2 ^ r = ((v / 2 ^ a % 2 ^ k * 2 ^ r : Nat) : Int) := by simp
    rw [e4, wrap_nat _ (by clear e7 hor e1 e2 e4; omega)]
  · exact wrap_u8_nat _ (Nat.lt_of_lt_of_le hz h256)
  · rw [u8_or_nat _ _ hA (Nat.lt_of_lt_of_le hz h256), hor, e1]
end Go.Proofs.YtgohfbfdhdepnaaDoor

namespace Go.Proofs.YtgohfbfdhdepnaaDoor
open Go.RowKit

set_option maxRecDepth 100000 in
set_option maxHeartbeats 4000000 in
theorem put_any (R : Nat) (bs : List Nat) (u : Value) (v n : Nat) (hv : v < 2 ^ n) (hn : n ≤ 48) (w : World) (hW : Wtr w R bs u) (hlen : bs.length + n ≤ 1000000000000) :
    Calls Tryd.prog 51 #[.pointer (some ⟨R, 0, none⟩), .int .i64 n, .int .i64 v] w fun e w' => (∃ q, e = .returned q) ∧ ∃ u', Wtr w' R (bs ++ vb v n) u' ∧ FrW R u u' w w' := by
  have HW := Lib.hid hW
  have Hv := Lib.hid hv
  have hv48 : v < 281474976710656 := Nat.lt_of_lt_of_le hv (Nat.pow_le_pow_right (n := 2) (by omega) hn)
  clear hW hv
  go_enter Tryd.func51, Tryd.ntmps51
  try go_wp2_with fail
  go_loopw [1] (fun nv wr => ∃ (j q : Nat) (u1 : Value), nv = .int .i64 (q : Int) ∧ Hid (q + j = n) ∧ Hid (Wtr wr R (bs ++ (vb v n).take j) u1) ∧ Hid (FrW R u u1 w wr)) (fun nv _ => (intOf nv).toNat)
  case atStart => exact ⟨0, n, u, rfl, rfl, by rw [List.take_zero, List.append_nil]; exact HW.out, FrW.refl _ _ _⟩
  case round =>
    obtain ⟨j, q, u1, rfl, Hq, HWr, Hfr⟩ := hrel
    by_cases hqq : 0 < q
    · have hq48 : q ≤ 48 := by have := Hq.out; omega
      have Hal : Hid (∀ k, j + k ≤ n → (bs ++ (vb v n).take j) ++ ((vb v n).drop j).take k = bs ++ (vb v n).take (j + k)) := by
        intro k hk
        rw [List.append_assoc, List.take_add]
      have Hml : Hid (∀ k, j + k ≤ n → (((vb v n).drop j).take k).length = k) := by
        intro k hk
        rw [List.length_take, List.length_drop, vb_length]; omega
      have Hmb : Hid (∀ k, ∀ b ∈ ((vb v n).drop j).take k, b < 2) := fun k b hb => vb_lt v n b (List.mem_of_mem_drop (List.mem_of_mem_take hb))
      have Hpt : Hid (∀ k, j + k ≤ n → sg (fun t => (((vb v n).drop j).take k).getD t 0) 0 k = v / 2 ^ (n - j - k) % 2 ^ k) := vb_part v n j
      have Hbl : Hid ((bs ++ (vb v n).take j).length = bs.length + j) := by
        show _ = _
        rw [List.length_append, List.length_take, vb_length, Nat.min_eq_left (by have := Hq.out; omega)]
      generalize bs ++ (vb v n).take j = B at *
      obtain ⟨p, hp⟩ : ∃ p, B.length = p := ⟨_, rfl⟩
      have hp12 : p ≤ 1000000000000 := by rw [← hp]; exact HWr.out.len
      obtain ⟨d, hd⟩ : ∃ d, p / 8 = d := ⟨_, rfl⟩
      obtain ⟨s, hs⟩ : ∃ s, p % 8 = s := ⟨_, rfl⟩
      have hs8 : s < 8 := by omega
      have hpds : p = 8 * d + s := by omega
      have hpd : (p : Int) / 8 = (d : Int) := by omega
      have hps : (p : Int) % 8 = (s : Int) := by omega
      have h0 := HWr.out.c0
      have h1 := HWr.out.c1
      have hR : R < wr.heap.size := (Array.getElem?_eq_some_iff.1 HWr.out.row).1
      rw [hp] at h0
      have Hp := Lib.hid hp
      have Hd := Lib.hid hpds
      clear hp hpds hd hs
      by_cases hs0 : s = 0
      · subst hs0
        have hps0 : (p : Int) % 8 = 0 := by omega
        clear hps
        have hown := HWr.out.own
        rw [show (B.length + 7) / 8 = d from by rw [Hp.out, Hd.out]; omega] at hown
        have Hown := Lib.hid hown
        have hd12 : d ≤ 1000000000000 := by have := Hd.out; omega
        clear hown
        go_upto_region 3 with (at_builtin; refine app1g rfl _ _ 28 rfl Tryd.underlying28 info_u8 rfl (by decide) rfl Hown.out hR rfl rfl (one_u8 _) (by omega) (by unfold maxLen; omega) ?_; intro u2 w1 own1 hg1 hat1; obtain ⟨A2, c2, rfl, hc2, -, -, -⟩ := own_rd4 own1; have Hg1 : Hid (wr.grownBy w1 u1.ownBlock) := hg1; have Hat1 : Hid ((Value.slice A2 (d + 1) c2).ownBlock = u1.ownBlock ∨ ∃ k, (Value.slice A2 (d + 1) c2).ownBlock = some k ∧ wr.heap.size ≤ k) := hat1; have Hown1 := Lib.hid own1; clear own1 hg1 hat1; have hz1 : w1.frozen? ⟨R, 1, none⟩ = false := (World.frozen?_of_block (w := wr) (a := ⟨R, 1, none⟩) (Hg1.out.block R hR (fun e => HWr.out.apart e.symm))).trans (HWr.out.fz 1); have hk1 : w1.cell? ⟨R, 1, none⟩ = some u1 := (World.cell?_of_block (w := wr) (a := ⟨R, 1, none⟩) (Hg1.out.block R hR (fun e => HWr.out.apart e.symm))).trans h1)
        obtain ⟨Hm, Hf⟩ := HWr.out.mid0 (by rw [Hp.out, Hd.out]; rfl) Hown1.out Hg1.out Hat1.out
        have HM := Lib.hid Hm
        have HF := Lib.hid Hf
        clear Hm Hf Hown1 Hown Hat1
        generalize w1.setCell ⟨R, 1, none⟩ (.slice A2 (d + 1) c2) = w2 at *
        have h0 := HM.out.c0
        have h1 := HM.out.c1
        rw [Hp.out] at h0
        clear hk1 hz1 Hg1
        have HRe := Lib.hid (rest_any p (by omega) w2)
        have hr0 : (8 - p % 8) % 8 = 0 := by have := Hd.out; omega
        rw [hr0] at HRe
        clear hr0
        go_wp2_with fail
        refine HRe.out.mono ?_
        rintro e w3 ⟨rfl, hb3⟩
        have HM3 := Lib.hid (HM.out.below hb3)
        have HF3 := Lib.hid (HF.out.next hb3)
        clear HM HF HRe hb3 h0 h1
        have h0 := HM3.out.c0
        have h1 := HM3.out.c1
        rw [Hp.out] at h0
        by_cases hq8 : q ≤ 8
        · obtain ⟨r, hr⟩ : ∃ r, 8 - q = r := ⟨_, rfl⟩
          have hr8 : (8 : Int) - q = (r : Int) := by omega
          have hq9 : (q : Int) ≤ 8 := by omega
          have hqn : ¬ (q : Int) < 0 := by omega
          have hq0 : (0 : Int) < q := by omega
          have hpk := pow8 (q) (by omega)
          obtain ⟨K, hK⟩ : ∃ K : Nat, 2 ^ q = K := ⟨_, rfl⟩
          have hK2 : ((2 : Int) ^ q) = (K : Int) := by rw [← hK]; simp
          rw [hK] at hpk
          have hK63 : K < 9223372036854775808 := Nat.lt_of_le_of_lt hpk.2 (by decide)
          obtain ⟨M, hM⟩ : ∃ M : Nat, M = K - 1 := ⟨_, rfl⟩
          have f1 : IntKind.i64.wrap (K : Int) = K := wrap_i64_nat K hK63
          have f2 : IntKind.i64.wrap ((K : Int) - 1) = (M : Int) := by rw [hM]; exact wrap_less_i K hpk.1 hK63
          have f1' : wrap64 (K : Int) = K := wrap_nat K hK63
          have f2' : wrap64 ((K : Int) - 1) = (M : Int) := by rw [hM]; exact wrap_less K hpk.1 hK63
          have hM2 : M = 2 ^ q - 1 := by rw [hK]; exact hM
          clear hM hK hpk hK63
          obtain ⟨y, z, hz, f3, f4, f4', f5, f6⟩ := put_step (v := v) (n := n) (j := j) (k := q) (s := 0) (d := d) (r := r) (a := 0) (M := M) (v2 := (v : Int)) HWr.out.bit (by rw [Hp.out, Hd.out]) (by omega) (by have := Hq.out; omega) hv48 (by have := Hq.out; omega) (by first | rfl | simp) hM2
          clear hM2
          have Hz := Lib.hid hz
          clear hz
          skip
          obtain ⟨m, hm⟩ : ∃ m, ((vb v n).drop j).take (q) = m := ⟨_, rfl⟩
          rw [hm] at f6
          have hml : m.length = q := by rw [← hm]; exact Hml.out (q) (by have := Hq.out; omega)
          have Hmb2 : Hid (∀ b ∈ m, b < 2) := by intro b hb; rw [← hm] at hb; exact Hmb.out (q) b hb
          have Hal2 : Hid (B ++ m = bs ++ (vb v n).take (j + q)) := by show _ = _; rw [← hm]; exact Hal.out (q) (by have := Hq.out; omega)
          have Hml2 := Lib.hid hml
          clear hm hml
          go_upto_region 7 with fail
          obtain ⟨g, cap, e⟩ := form01 HM3.out.own (by omega)
          first | (injection e with e1 e2 e3; subst e1 e3) | subst e
          have hcl : w3.cell? ⟨g, d, none⟩ = some (.int .u8 (byteAt B d : Nat)) := (HM3.out.own.cellAt d (by omega)).trans (pkN_get B (d + 1) d (by omega))
          have hfz := HM3.out.own.frozenAt d
          have hd0 : (d : Int) < (d : Int) + 1 := by omega
          have hw0 : IntKind.i64.wrap 0 = 0 := by decide
          have hwd : IntKind.i64.wrap (d : Int) = d := by rw [IntKind.wrap_i64]; omega
          refine wp_region_still_tail 26 (by kernel_rfl) (by kernel_rfl) ?_
          simp only [List.take_succ_cons, List.take_zero, List.drop_succ_cons, List.drop_zero]
          repeat still_step
          refine wpStill_nil ?_
          change wpList _ _ _ _ _ w3.drew
          have hcl2 : w3.drew.cell? ⟨g, d, none⟩ = some (.int .u8 (byteAt B d : Nat)) := hcl
          have hfz2 : w3.drew.frozen? ⟨g, d, none⟩ = false := hfz
          have Hdone := Lib.hid (Mid.done (w := w3.drew) (R := R) (d := d) (g := g) (bs := B) (m := m) ⟨HM3.out.row, HM3.out.own⟩ (by rw [Hp.out, Hd.out]; omega) (by rw [Hp.out, Hd.out, Hml2.out]; omega) (by rw [Hml2.out]; omega) HWr.out.bit Hmb2.out (by rw [Hbl.out, Hml2.out]; have := Hq.out; omega))
          have HF4 := Lib.hid (HF3.out.next (Below.drew (Below.refl _ _)))
          have hgR : g ≠ R := fun e => HM3.out.apart (by subst e; rfl)
          have hfr3 : w3.frozen? ⟨R, 0, none⟩ = false := HM3.out.fz 0
          have hfr3d : w3.drew.frozen? ⟨R, 0, none⟩ = false := hfr3
          have h0d : w3.drew.cell? ⟨R, 0, none⟩ = some (.int .i64 p) := h0
          have hwp : IntKind.i64.wrap ((p : Int) + (q)) = (p : Int) + (q) := by rw [IntKind.wrap_i64]; omega
          go_wp2_with fail
          go_roundw
          case rel =>
            obtain ⟨d1, d2⟩ := Hdone.out
            rw [Hml2.out, Hp.out, Int.natCast_add] at d1 d2
            exact ⟨j + q, 0, _, by go_num, by show _ = _; have := Hq.out; omega, by rw [← Hal2.out]; exact d1, Hfr.out.trans (HF4.out.trans d2)⟩
          case measure => simp [intOf] <;> omega
        · obtain ⟨a, ha⟩ : ∃ a, q - 8 = a := ⟨_, rfl⟩
          have hqa : (q : Int) - 8 = (a : Int) := by omega
          have hq9 : ¬ (q : Int) < 8 := by omega
          have hq10 : (8 : Int) ≤ q := by omega
          have hqn : ¬ (q : Int) < 0 := by omega
          have hq0 : (0 : Int) < q := by omega
          have hwa : IntKind.i64.wrap (a : Int) = a := by rw [IntKind.wrap_i64]; omega
          have hmin : min a 64 = a := Nat.min_eq_left (by omega)
          have g1 : IntKind.i64.wrap 256 = 256 := by decide
          have g2 : IntKind.i64.wrap 255 = 255 := by decide
          have hM2 : (255 : Nat) = 2 ^ 8 - 1 := by decide
          obtain ⟨y, z, hz, f3, f4, f4', f5, f6⟩ := put_step (v := v) (n := n) (j := j) (k := 8) (s := 0) (d := d) (r := 0) (a := a) (M := 255) (v2 := ((v : Int) / 2 ^ a)) HWr.out.bit (by rw [Hp.out, Hd.out]) (by omega) (by have := Hq.out; omega) hv48 (by have := Hq.out; omega) (by first | rfl | simp) hM2
          clear hM2
          have Hz := Lib.hid hz
          clear hz
          (have f3 : bits .and .i64 ((v : Int) / 2 ^ a) (255 : Int) = (y : Int) := f3; rw [Int.pow_zero, Int.mul_one] at f4 f4')
          obtain ⟨m, hm⟩ : ∃ m, ((vb v n).drop j).take (8) = m := ⟨_, rfl⟩
          rw [hm] at f6
          have hml : m.length = 8 := by rw [← hm]; exact Hml.out (8) (by have := Hq.out; omega)
          have Hmb2 : Hid (∀ b ∈ m, b < 2) := by intro b hb; rw [← hm] at hb; exact Hmb.out (8) b hb
          have Hal2 : Hid (B ++ m = bs ++ (vb v n).take (j + 8)) := by show _ = _; rw [← hm]; exact Hal.out (8) (by have := Hq.out; omega)
          have Hml2 := Lib.hid hml
          clear hm hml
          go_upto_region 7 with fail
          obtain ⟨g, cap, e⟩ := form01 HM3.out.own (by omega)
          first | (injection e with e1 e2 e3; subst e1 e3) | subst e
          have hcl : w3.cell? ⟨g, d, none⟩ = some (.int .u8 (byteAt B d : Nat)) := (HM3.out.own.cellAt d (by omega)).trans (pkN_get B (d + 1) d (by omega))
          have hfz := HM3.out.own.frozenAt d
          have hd0 : (d : Int) < (d : Int) + 1 := by omega
          have hw0 : IntKind.i64.wrap 0 = 0 := by decide
          have hwd : IntKind.i64.wrap (d : Int) = d := by rw [IntKind.wrap_i64]; omega
          refine wp_region_still_tail 26 (by kernel_rfl) (by kernel_rfl) ?_
          simp only [List.take_succ_cons, List.take_zero, List.drop_succ_cons, List.drop_zero]
          repeat still_step
          refine wpStill_nil ?_
          change wpList _ _ _ _ _ w3.drew
          have hcl2 : w3.drew.cell? ⟨g, d, none⟩ = some (.int .u8 (byteAt B d : Nat)) := hcl
          have hfz2 : w3.drew.frozen? ⟨g, d, none⟩ = false := hfz
          have Hdone := Lib.hid (Mid.done (w := w3.drew) (R := R) (d := d) (g := g) (bs := B) (m := m) ⟨HM3.out.row, HM3.out.own⟩ (by rw [Hp.out, Hd.out]; omega) (by rw [Hp.out, Hd.out, Hml2.out]; omega) (by rw [Hml2.out]; omega) HWr.out.bit Hmb2.out (by rw [Hbl.out, Hml2.out]; have := Hq.out; omega))
          have HF4 := Lib.hid (HF3.out.next (Below.drew (Below.refl _ _)))
          have hgR : g ≠ R := fun e => HM3.out.apart (by subst e; rfl)
          have hfr3 : w3.frozen? ⟨R, 0, none⟩ = false := HM3.out.fz 0
          have hfr3d : w3.drew.frozen? ⟨R, 0, none⟩ = false := hfr3
          have h0d : w3.drew.cell? ⟨R, 0, none⟩ = some (.int .i64 p) := h0
          have hwp : IntKind.i64.wrap ((p : Int) + (8)) = (p : Int) + (8) := by rw [IntKind.wrap_i64]; omega
          go_wp2_with fail
          go_roundw
          case rel =>
            obtain ⟨d1, d2⟩ := Hdone.out
            rw [Hml2.out, Hp.out, Int.natCast_add] at d1 d2
            exact ⟨j + 8, q - 8, _, by go_num, by show _ = _; have := Hq.out; omega, by rw [← Hal2.out]; exact d1, Hfr.out.trans (HF4.out.trans d2)⟩
          case measure => simp [intOf] <;> omega
      · have hsi : ((s : Int) == 0) = false := by rw [beq_eq_false_iff_ne]; omega
        have HM := Lib.hid (HWr.out.mid (d := d) (by rw [Hp.out, Hd.out]; omega) (by rw [Hp.out, Hd.out]; omega))
        have HRe := Lib.hid (rest_any p (by omega) wr)
        obtain ⟨k, hk⟩ : ∃ k, 8 - s = k := ⟨_, rfl⟩
        have hr0 : (8 - p % 8) % 8 = k := by have := Hd.out; omega
        rw [hr0] at HRe
        have hk8 : (8 : Int) - s = (k : Int) := by omega
        have hkq : k < 8 ∧ 0 < k ∧ s + k = 8 := by omega
        clear hr0
        go_wp2_with fail
        refine HRe.out.mono ?_
        rintro e w3 ⟨rfl, hb3⟩
        have HM3 := Lib.hid (HM.out.below hb3)
        have HF3 := Lib.hid ((FrW.refl R u1 wr).next hb3)
        clear HM HRe hb3 h0 h1
        have h0 := HM3.out.c0
        have h1 := HM3.out.c1
        rw [Hp.out] at h0
        by_cases hq8 : q ≤ k
        · obtain ⟨r, hr⟩ : ∃ r, k - q = r := ⟨_, rfl⟩
          have hr8 : (k : Int) - q = (r : Int) := by omega
          have hq9 : (q : Int) ≤ k := by omega
          have hpk := pow8 (q) (by omega)
          obtain ⟨K, hK⟩ : ∃ K : Nat, 2 ^ q = K := ⟨_, rfl⟩
          have hK2 : ((2 : Int) ^ q) = (K : Int) := by rw [← hK]; simp
          rw [hK] at hpk
          have hK63 : K < 9223372036854775808 := Nat.lt_of_le_of_lt hpk.2 (by decide)
          obtain ⟨M, hM⟩ : ∃ M : Nat, M = K - 1 := ⟨_, rfl⟩
          have f1 : IntKind.i64.wrap (K : Int) = K := wrap_i64_nat K hK63
          have f2 : IntKind.i64.wrap ((K : Int) - 1) = (M : Int) := by rw [hM]; exact wrap_less_i K hpk.1 hK63
          have f1' : wrap64 (K : Int) = K := wrap_nat K hK63
          have f2' : wrap64 ((K : Int) - 1) = (M : Int) := by rw [hM]; exact wrap_less K hpk.1 hK63
          have hM2 : M = 2 ^ q - 1 := by rw [hK]; exact hM
          clear hM hK hpk hK63
          obtain ⟨y, z, hz, f3, f4, f4', f5, f6⟩ := put_step (v := v) (n := n) (j := j) (k := q) (s := s) (d := d) (r := r) (a := 0) (M := M) (v2 := (v : Int)) HWr.out.bit (by rw [Hp.out, Hd.out]) (by omega) (by have := Hq.out; omega) hv48 (by have := Hq.out; omega) (by first | rfl | simp) hM2
          clear hM2
          have Hz := Lib.hid hz
          clear hz
          skip
          obtain ⟨m, hm⟩ : ∃ m, ((vb v n).drop j).take (q) = m := ⟨_, rfl⟩
          rw [hm] at f6
          have hml : m.length = q := by rw [← hm]; exact Hml.out (q) (by have := Hq.out; omega)
          have Hmb2 : Hid (∀ b ∈ m, b < 2) := by intro b hb; rw [← hm] at hb; exact Hmb.out (q) b hb
          have Hal2 : Hid (B ++ m = bs ++ (vb v n).take (j + q)) := by show _ = _; rw [← hm]; exact Hal.out (q) (by have := Hq.out; omega)
          have Hml2 := Lib.hid hml
          clear hm hml
          go_upto_region 7 with fail
          obtain ⟨g, cap, e⟩ := form01 HM3.out.own (by omega)
          first | (injection e with e1 e2 e3; subst e1 e3) | subst e
          have hcl : w3.cell? ⟨g, d, none⟩ = some (.int .u8 (byteAt B d : Nat)) := (HM3.out.own.cellAt d (by omega)).trans (pkN_get B (d + 1) d (by omega))
          have hfz := HM3.out.own.frozenAt d
          have hd0 : (d : Int) < (d : Int) + 1 := by omega
          have hw0 : IntKind.i64.wrap 0 = 0 := by decide
          have hwd : IntKind.i64.wrap (d : Int) = d := by rw [IntKind.wrap_i64]; omega
          refine wp_region_still_tail 26 (by kernel_rfl) (by kernel_rfl) ?_
          simp only [List.take_succ_cons, List.take_zero, List.drop_succ_cons, List.drop_zero]
          repeat still_step
          refine wpStill_nil ?_
          change wpList _ _ _ _ _ w3.drew
          have hcl2 : w3.drew.cell? ⟨g, d, none⟩ = some (.int .u8 (byteAt B d : Nat)) := hcl
          have hfz2 : w3.drew.frozen? ⟨g, d, none⟩ = false := hfz
          have Hdone := Lib.hid (Mid.done (w := w3.drew) (R := R) (d := d) (g := g) (bs := B) (m := m) ⟨HM3.out.row, HM3.out.own⟩ (by rw [Hp.out, Hd.out]; omega) (by rw [Hp.out, Hd.out, Hml2.out]; omega) (by rw [Hml2.out]; omega) HWr.out.bit Hmb2.out (by rw [Hbl.out, Hml2.out]; have := Hq.out; omega))
          have HF4 := Lib.hid (HF3.out.next (Below.drew (Below.refl _ _)))
          have hgR : g ≠ R := fun e => HM3.out.apart (by subst e; rfl)
          have hfr3 : w3.frozen? ⟨R, 0, none⟩ = false := HM3.out.fz 0
          have hfr3d : w3.drew.frozen? ⟨R, 0, none⟩ = false := hfr3
          have h0d : w3.drew.cell? ⟨R, 0, none⟩ = some (.int .i64 p) := h0
          have hwp : IntKind.i64.wrap ((p : Int) + (q)) = (p : Int) + (q) := by rw [IntKind.wrap_i64]; omega
          go_wp2_with fail
          go_roundw
          case rel =>
            obtain ⟨d1, d2⟩ := Hdone.out
            rw [Hml2.out, Hp.out, Int.natCast_add] at d1 d2
            exact ⟨j + q, 0, _, by go_num, by show _ = _; have := Hq.out; omega, by rw [← Hal2.out]; exact d1, Hfr.out.trans (HF4.out.trans d2)⟩
          case measure => simp [intOf] <;> omega
        · obtain ⟨a, ha⟩ : ∃ a, q - k = a := ⟨_, rfl⟩
          have hqa : (q : Int) - k = (a : Int) := by omega
          have hq9 : ¬ (q : Int) < k := by omega
          have hq10 : (k : Int) ≤ q := by omega
          have hwa : IntKind.i64.wrap (a : Int) = a := by rw [IntKind.wrap_i64]; omega
          have hmin : min a 64 = a := Nat.min_eq_left (by omega)
          have hpk := pow8 (k) (by omega)
          obtain ⟨K, hK⟩ : ∃ K : Nat, 2 ^ k = K := ⟨_, rfl⟩
          have hK2 : ((2 : Int) ^ k) = (K : Int) := by rw [← hK]; simp
          rw [hK] at hpk
          have hK63 : K < 9223372036854775808 := Nat.lt_of_le_of_lt hpk.2 (by decide)
          obtain ⟨M, hM⟩ : ∃ M : Nat, M = K - 1 := ⟨_, rfl⟩
          have f1 : IntKind.i64.wrap (K : Int) = K := wrap_i64_nat K hK63
          have f2 : IntKind.i64.wrap ((K : Int) - 1) = (M : Int) := by rw [hM]; exact wrap_less_i K hpk.1 hK63
          have f1' : wrap64 (K : Int) = K := wrap_nat K hK63
          have f2' : wrap64 ((K : Int) - 1) = (M : Int) := by rw [hM]; exact wrap_less K hpk.1 hK63
          have hM2 : M = 2 ^ k - 1 := by rw [hK]; exact hM
          clear hM hK hpk hK63
          obtain ⟨y, z, hz, f3, f4, f4', f5, f6⟩ := put_step (v := v) (n := n) (j := j) (k := k) (s := s) (d := d) (r := 0) (a := a) (M := M) (v2 := ((v : Int) / 2 ^ a)) HWr.out.bit (by rw [Hp.out, Hd.out]) (by omega) (by have := Hq.out; omega) hv48 (by have := Hq.out; omega) (by first | rfl | simp) hM2
          clear hM2
          have Hz := Lib.hid hz
          clear hz
          (rw [Int.pow_zero, Int.mul_one] at f4 f4')
          obtain ⟨m, hm⟩ : ∃ m, ((vb v n).drop j).take (k) = m := ⟨_, rfl⟩
          rw [hm] at f6
          have hml : m.length = k := by rw [← hm]; exact Hml.out (k) (by have := Hq.out; omega)
          have Hmb2 : Hid (∀ b ∈ m, b < 2) := by intro b hb; rw [← hm] at hb; exact Hmb.out (k) b hb
          have Hal2 : Hid (B ++ m = bs ++ (vb v n).take (j + k)) := by show _ = _; rw [← hm]; exact Hal.out (k) (by have := Hq.out; omega)
          have Hml2 := Lib.hid hml
          clear hm hml
          go_upto_region 7 with fail
          obtain ⟨g, cap, e⟩ := form01 HM3.out.own (by omega)
          first | (injection e with e1 e2 e3; subst e1 e3) | subst e
          have hcl : w3.cell? ⟨g, d, none⟩ = some (.int .u8 (byteAt B d : Nat)) := (HM3.out.own.cellAt d (by omega)).trans (pkN_get B (d + 1) d (by omega))
          have hfz := HM3.out.own.frozenAt d
          have hd0 : (d : Int) < (d : Int) + 1 := by omega
          have hw0 : IntKind.i64.wrap 0 = 0 := by decide
          have hwd : IntKind.i64.wrap (d : Int) = d := by rw [IntKind.wrap_i64]; omega
          refine wp_region_still_tail 26 (by kernel_rfl) (by kernel_rfl) ?_
          simp only [List.take_succ_cons, List.take_zero, List.drop_succ_cons, List.drop_zero]
          repeat still_step
          refine wpStill_nil ?_
          change wpList _ _ _ _ _ w3.drew
          have hcl2 : w3.drew.cell? ⟨g, d, none⟩ = some (.int .u8 (byteAt B d : Nat)) := hcl
          have hfz2 : w3.drew.frozen? ⟨g, d, none⟩ = false := hfz
          have Hdone := Lib.hid (Mid.done (w := w3.drew) (R := R) (d := d) (g := g) (bs := B) (m := m) ⟨HM3.out.row, HM3.out.own⟩ (by rw [Hp.out, Hd.out]; omega) (by rw [Hp.out, Hd.out, Hml2.out]; omega) (by rw [Hml2.out]; omega) HWr.out.bit Hmb2.out (by rw [Hbl.out, Hml2.out]; have := Hq.out; omega))
          have HF4 := Lib.hid (HF3.out.next (Below.drew (Below.refl _ _)))
          have hgR : g ≠ R := fun e => HM3.out.apart (by subst e; rfl)
          have hfr3 : w3.frozen? ⟨R, 0, none⟩ = false := HM3.out.fz 0
          have hfr3d : w3.drew.frozen? ⟨R, 0, none⟩ = false := hfr3
          have h0d : w3.drew.cell? ⟨R, 0, none⟩ = some (.int .i64 p) := h0
          have hwp : IntKind.i64.wrap ((p : Int) + (k)) = (p : Int) + (k) := by rw [IntKind.wrap_i64]; omega
          go_wp2_with fail
          go_roundw
          case rel =>
            obtain ⟨d1, d2⟩ := Hdone.out
            rw [Hml2.out, Hp.out, Int.natCast_add] at d1 d2
            exact ⟨j + k, q - k, _, by go_num, by show _ = _; have := Hq.out; omega, by rw [← Hal2.out]; exact d1, Hfr.out.trans (HF4.out.trans d2)⟩
          case measure => simp [intOf] <;> omega
    · obtain rfl : q = 0 := by omega
      have hj : j = n := by have := Hq.out; omega
      subst hj
      go_wp2_with fail
      have e : (vb v j).take j = vb v j := List.take_of_length_le (by rw [vb_length]; omega)
      have hW2 := HWr.out
      rw [e] at hW2
      exact bodyPost_end (v := .tuple #[]) (by simp [results, Tryd.results51, go_sem]) rfl ⟨⟨_, rfl⟩, u1, hW2, Hfr.out⟩
end Go.Proofs.YtgohfbfdhdepnaaDoor

namespace Go.Proofs.YtgohfbfdhdepnaaDoor
open Go.RowKit

set_option maxHeartbeats 400000 in
theorem NewWriter_any (w : World) :
    Calls Tryd.prog 24 #[] w fun e w' => ∃ R, e = .returned (.pointer (some ⟨R, 0, none⟩)) ∧ Wtr w' R [] (.slice none 0 0) ∧ w.heap.size ≤ R ∧ R < w'.heap.size ∧ Below w.heap.size w w' := by
  go_enter Tryd.func24, Tryd.ntmps24
  go_wp2_with fail
  go_ret
  exact ⟨w.heap.size, rfl, ⟨heap_alloc_last w _, World.ownsRow_nil _ _ _ 1, (fun b hb => by cases hb), by simp⟩, Nat.le_refl _, by simp, by repeat (first | exact Below.refl _ _ | assumption | refine below_drewN ?_ _ | refine Below.drew ?_ | refine Below.alloc ?_ (Nat.le_refl _) _ | refine bal ?_ _ | refine bnext ?_ (by assumption))⟩
/-- The bytes of bits. -/
def pkL (bs : List Nat) : List UInt8 := (List.range ((bs.length + 7) / 8)).map fun i => UInt8.ofNat (byteAt bs i)
theorem pkL_length (bs : List Nat) : (pkL bs).length = (bs.length + 7) / 8 := by simp [pkL]
theorem bv_pkL (bs : List Nat) (h : ∀ b ∈ bs, b < 2) : bv (pkL bs) = pkN bs ((bs.length + 7) / 8) := by
  unfold bv pkL pkN
  rw [List.map_map]
  refine List.map_congr_left fun i _ => ?_
  show Value.int .u8 _ = Value.int .u8 _
  have := byteAt_lt h i
  rw [UInt8.toNat_ofNat', Nat.mod_eq_of_lt (by omega)]
theorem Bytes_any (R : Nat) (bs : List Nat) (u : Value) (w : World) (hW : Wtr w R bs u) (hl : bs.length ≤ 4000000) :
    Calls Tryd.prog 30 #[.pointer (some ⟨R, 0, none⟩)] w fun e w' => ∃ A c, e = .returned (.slice A (pkL bs).length c) ∧ (pkL bs).length ≤ c ∧ c ≤ 9223372036854775807 ∧ Rd w' A (bv (pkL bs)) ∧ (A = none → (pkL bs).length = 0 ∧ c = 0) ∧ Below w.heap.size w w' := by
  obtain ⟨A, c, rfl, -, -, hr, hn⟩ := own_rd4 hW.own
  rw [← bv_pkL bs hW.bit] at hr
  rw [← pkL_length] at hn
  have HC := Lib.hid (clone_any (pkL bs) A c w hr (by rw [pkL_length]; omega) hn)
  have h1 := hW.c1
  rw [← pkL_length] at h1
  clear hW hr hn
  go_enter Tryd.func30, Tryd.ntmps30
  go_wp2_with fail
  refine HC.out.mono ?_
  rintro e w1 ⟨v, rfl, Hown, hb⟩
  obtain ⟨A', c', rfl, hcc, hc63, hrd, hn⟩ := own_rd4 Hown.out
  go_wp2_with fail
  go_ret
  exact ⟨A', c', rfl, hcc, hc63, hrd, hn, hb⟩

def ptE (n v : Int) : Int := if n < 0 ∨ 48 < n then 1 else if v < 0 ∨ 2 ^ n.toNat ≤ v then 10 else 0
def ptB (bs : List Nat) (n v : Int) : List Nat := if ptE n v = 0 then bs ++ vb v.toNat n.toNat else bs
set_option maxHeartbeats 800000 in
theorem Put_any (R : Nat) (bs : List Nat) (u : Value) (n v : Int) (w : World) (hW : Wtr w R bs u) (hlen : bs.length + 48 ≤ 1000000000000) :
    Calls Tryd.prog 25 #[.pointer (some ⟨R, 0, none⟩), .int .i64 n, .int .i64 v] w fun e w' => e = .returned (.int .i64 (ptE n v)) ∧ ∃ u', Wtr w' R (ptB bs n v) u' ∧ FrW R u u' w w' := by
  have HW := Lib.hid hW
  clear hW
  have stay : Hid (ptE n v ≠ 0 → ∃ u', Wtr w R (ptB bs n v) u' ∧ FrW R u u' w w) := fun h => ⟨u, by rw [ptB, if_neg h]; exact HW.out, FrW.refl _ _ _⟩
  have HE : Hid (ptE n v = if n < 0 ∨ 48 < n then 1 else if v < 0 ∨ 2 ^ n.toNat ≤ v then 10 else 0) := rfl
  have HB : Hid (ptE n v = 0 → ptB bs n v = bs ++ vb v.toNat n.toNat) := fun h => if_pos h
  generalize ptE n v = E at *
  generalize ptB bs n v = B at *
  by_cases h1 : n < 0
  · have hE : E = 1 := by rw [HE.out, if_pos (.inl h1)]
    subst hE
    have HS := Lib.hid (stay.out (by decide))
    clear stay HE HB
    go_enter Tryd.func25, Tryd.ntmps25
    go_wp2_with fail
    try rw [Exit.noGoto_ret]
    go_ret
    exact ⟨rfl, HS.out⟩
  by_cases h2 : n > 48
  · have hE : E = 1 := by rw [HE.out, if_pos (.inr h2)]
    subst hE
    have HS := Lib.hid (stay.out (by decide))
    clear stay HE HB
    go_enter Tryd.func25, Tryd.ntmps25
    go_wp2_with fail
    try rw [Exit.noGoto_ret]
    go_ret
    exact ⟨rfl, HS.out⟩
  obtain ⟨m, rfl⟩ : ∃ m : Nat, n = m := ⟨n.toNat, by omega⟩
  rw [Int.toNat_natCast] at HE HB
  have hm : m ≤ 48 := by omega
  have hpw := pow48 m hm
  have hwp : wrap64 ((2 : Int) ^ m) = 2 ^ m := by unfold wrap64; omega
  have hwp2 : IntKind.i64.wrap ((2 : Int) ^ m) = 2 ^ m := by rw [IntKind.wrap_i64]; omega
  have HE2 : Hid (E = if v < 0 ∨ 2 ^ m ≤ v then 10 else 0) := by show _ = _; rw [HE.out, if_neg (by omega)]
  have hmin : min m 64 = m := Nat.min_eq_left (by omega)
  clear HE
  by_cases h3 : v < 0
  · have hE : E = 10 := by rw [HE2.out, if_pos (.inl h3)]
    subst hE
    have HS := Lib.hid (stay.out (by decide))
    clear stay HE2 HB
    go_enter Tryd.func25, Tryd.ntmps25
    go_wp2_with fail
    try rw [Exit.noGoto_ret]
    go_ret
    exact ⟨rfl, HS.out⟩
  by_cases h4 : v ≥ 2 ^ m
  · have hE : E = 10 := by rw [HE2.out, if_pos (.inr h4)]
    subst hE
    have HS := Lib.hid (stay.out (by decide))
    clear stay HE2 HB
    go_enter Tryd.func25, Tryd.ntmps25
    go_wp2_with fail
    try rw [Exit.noGoto_ret]
    go_ret
    exact ⟨rfl, HS.out⟩
  have hE : E = 0 := by rw [HE2.out, if_neg (by omega)]
  subst hE
  obtain ⟨x, rfl⟩ : ∃ x : Nat, v = x := ⟨v.toNat, by omega⟩
  have hx : x < 2 ^ m := by
    have e : ((2 : Int) ^ m) = ((2 ^ m : Nat) : Int) := by simp
    rw [e] at h4; omega
  have HBe := Lib.hid (HB.out rfl)
  have HP := Lib.hid (put_any R bs u x m hx hm w HW.out (by omega))
  clear stay HE2 HB hx
  go_enter Tryd.func25, Tryd.ntmps25
  go_wp2_with fail
  refine HP.out.mono ?_
  rintro e w1 ⟨⟨q, rfl⟩, u', hW1, hF1⟩
  go_wp2_with fail
  try rw [Exit.noGoto_ret]
  go_ret
  refine ⟨rfl, u', ?_, hF1⟩
  rw [HBe.out]
  exact hW1
end Go.Proofs.YtgohfbfdhdepnaaDoor
