/-
  Writer.put.
-/
import Derived.Test.YtgohfbfdhdepnaaDoorPackW01
import Derived.StillTailTactics
import Derived.OneCell
namespace Go.Proofs.YtgohfbfdhdepnaaDoor
open Go.RowKit

/-- As app1, with the growth told. -/
theorem app1g {P : Program} {W : World} {ops : Array Oper} {rest : List Oper} {o : Oper} {a : Act} {Q : Exit → Act → World → Prop} (hgd : o.guard = none) (s x : Operand) (t : TypeId)
    (ho : o.op = .call { callee := .builtin .append, args := #[s, x], argTypes := #[t, t] })
    {base : Nat} {e : TypeId} {z : Value} {size bytes : Nat} (ht : P.underlying t = some (.slice e)) (hi : (P.info? e).map (fun i => (i.zero, i.size, i.bytes)) = some (some z, size, bytes)) (hzs : z.cells.size = size) (hsz : 0 < size)
    {v : Value} {n : Nat} {xs : List Value} (hs : a.eval s = v) (hown : W.ownsRow base e size v n xs) (hbW : base ≤ W.heap.size)
    {arr : Array Value} (hx : a.eval x = .slice (some ⟨W.heap.size, 0, none⟩) 1 1) (hl : arr.size = size) (h1 : ∀ u ∈ arr.toList, u.oneCell' = true)
    (hbytes : (n + 1) * bytes ≤ 140737488355328) (h63 : n + 1 ≤ maxLen)
    (h : ∀ v' w1, w1.ownsRow base e size v' (n + 1) (xs ++ arr.toList) → W.grownBy w1 v.ownBlock → (v'.ownBlock = v.ownBlock ∨ ∃ k, v'.ownBlock = some k ∧ W.heap.size ≤ k) → wpList P ops Q rest (a.put o.dst v') w1) :
    wpList P ops Q (o :: rest) a (W.alloc (.cells arr e)) := by
  obtain ⟨i, hi, hz0, hz1, hz2⟩ := info_parts hi
  refine wpList_append_own_at (W.alloc (.cells arr e)) hgd s x t ho base e i z size bytes ht hi hz0 hz1 hz2 hzs hsz v n xs hs (hown.alloc _) ⟨W.heap.size, 0, none⟩ 1 1 arr.toList hx (by simp [hl]) ?_ h1 h63 hbytes (by simp; omega) ?_
  · intro j u hu
    have : (⟨W.heap.size, 0, none⟩ : Addr).add j = ⟨W.heap.size, j, none⟩ := by unfold Addr.add; split <;> simp_all
    rw [this, cell_of_row _ W.heap.size j arr e (0, 0) (heap_alloc_new W _)]
    simpa using hu
  · intro v' w1 hown1 hgrow _ hat
    have hg0 := World.grownBy_alloc W (.cells arr e) v.ownBlock
    refine h v' w1 hown1 ⟨hgrow.os.trans hg0.os, hgrow.tape.trans hg0.tape, hgrow.output.trans hg0.output, Nat.le_trans hg0.size hgrow.size, fun k hk hne => (hgrow.block k (Nat.lt_of_lt_of_le hk hg0.size) hne).trans (hg0.block k hk hne)⟩ ?_
    rcases hat with e | e
    · exact .inl e
    · exact .inr ⟨_, e, by simp⟩

theorem form01 {w : World} {base size n : Nat} {e : TypeId} {v : Value} {xs : List Value} (h : w.ownsRow base e size v n xs) (hn : 0 < n) : ∃ g cap, v = .slice (some ⟨g, 0, none⟩) n cap := by
  rcases h.2 with ⟨_, h0⟩ | ⟨g, cap, cur, h1, _⟩
  · omega
  · exact ⟨g, cap, h1⟩
/-- A Writer in the midst of put: its bytes reach over the byte that is written. -/
structure Mid (w : World) (R p d : Nat) (u : Value) (bs : List Nat) : Prop where
  row : w.heap[R]? = some (.cells #[.int .i64 p, u] 87 (0, 0))
  own : w.ownsRow (R + 1) 5 1 u (d + 1) (pkN bs (d + 1))
theorem Mid.c0 {w : World} {R p d : Nat} {u : Value} {bs : List Nat} (h : Mid w R p d u bs) : w.cell? ⟨R, 0, none⟩ = some (.int .i64 p) := cell_of_row w R 0 _ _ _ h.row
theorem Mid.c1 {w : World} {R p d : Nat} {u : Value} {bs : List Nat} (h : Mid w R p d u bs) : w.cell? ⟨R, 1, none⟩ = some u := cell_of_row w R 1 _ _ _ h.row
theorem Mid.fz {w : World} {R p d : Nat} {u : Value} {bs : List Nat} (h : Mid w R p d u bs) (i : Nat) : w.frozen? ⟨R, i, none⟩ = false := frozen_of_row w R i _ _ h.row
theorem Mid.below {w w' : World} {R p d : Nat} {u : Value} {bs : List Nat} (h : Mid w R p d u bs) (b : Below w.heap.size w w') : Mid w' R p d u bs :=
  ⟨(Fr.of (S := fun _ => False) b).row h.row id, ownsRow_below h.own b⟩
theorem Mid.apart {w : World} {R p d : Nat} {u : Value} {bs : List Nat} (h : Mid w R p d u bs) : u.ownBlock ≠ some R := fun e => by have := (h.own.lt R e).1; omega
theorem Wtr.apart {w : World} {R : Nat} {bs : List Nat} {u : Value} (h : Wtr w R bs u) : u.ownBlock ≠ some R := fun e => by have := (h.own.lt R e).1; omega
/-- Between bytes: the row with a nought behind it. -/
theorem Wtr.mid0 {w w1 : World} {R d : Nat} {bs : List Nat} {u u1 : Value} (h : Wtr w R bs u) (hl : bs.length = 8 * d) (own1 : w1.ownsRow (R + 1) 5 1 u1 (d + 1) (pkN bs d ++ [.int .u8 0])) (hg : w.grownBy w1 u.ownBlock)
    (hat : u1.ownBlock = u.ownBlock ∨ ∃ k, u1.ownBlock = some k ∧ w.heap.size ≤ k) : Mid (w1.setCell ⟨R, 1, none⟩ u1) R bs.length d u1 bs ∧ FrW R u u1 w (w1.setCell ⟨R, 1, none⟩ u1) := by
  have hR : R < w.heap.size := (Array.getElem?_eq_some_iff.1 h.row).1
  rw [← pkN_snoc bs d (by omega)] at own1
  have hrow : w1.heap[R]? = some (.cells #[.int .i64 bs.length, u] 87 (0, 0)) := (hg.block R hR (fun e => h.apart e.symm)).trans h.row
  have hne : u1.ownBlock ≠ some R := fun e => by have := (own1.lt R e).1; omega
  refine ⟨⟨heap_setCell_same w1 R 1 _ _ u1 hrow, ownsRow_setCell_other own1 hne _⟩, ⟨?_, hat⟩⟩
  have f1 : Fr (WS R u) w w1 := ⟨hg.os, hg.tape, hg.output, hg.size, fun k hk hs => hg.block k hk (fun e => hs (.inr e.symm))⟩
  exact f1.setCell (p := ⟨R, 1, none⟩) (.inl rfl) _
theorem Wtr.mid {w : World} {R d : Nat} {bs : List Nat} {u : Value} (h : Wtr w R bs u) (h1 : 8 * d < bs.length) (h2 : bs.length < 8 * d + 8) : Mid w R bs.length d u bs :=
  ⟨h.row, by have := h.own; rwa [show (bs.length + 7) / 8 = d + 1 from by omega] at this⟩
/-- Behind the store of the byte and that of the place. -/
theorem Mid.done {w : World} {R d g cap : Nat} {bs m : List Nat} (h : Mid w R bs.length d (.slice (some ⟨g, 0, none⟩) (d + 1) cap) bs) (h1 : 8 * d ≤ bs.length) (hm : bs.length + m.length ≤ 8 * d + 8) (hm0 : 0 < m.length) (hb : ∀ b ∈ bs, b < 2) (hbm : ∀ b ∈ m, b < 2) (hle : bs.length + m.length ≤ 1000000000000) :
    Wtr ((w.setCell ⟨g, d, none⟩ (.int .u8 (byteAt (bs ++ m) d : Nat))).setCell ⟨R, 0, none⟩ (.int .i64 ((bs.length + m.length : Nat) : Int))) R (bs ++ m) (.slice (some ⟨g, 0, none⟩) (d + 1) cap) ∧
    FrW R (.slice (some ⟨g, 0, none⟩) (d + 1) cap) (.slice (some ⟨g, 0, none⟩) (d + 1) cap) w ((w.setCell ⟨g, d, none⟩ (.int .u8 (byteAt (bs ++ m) d : Nat))).setCell ⟨R, 0, none⟩ (.int .i64 ((bs.length + m.length : Nat) : Int))) := by
  have hgR : g ≠ R := fun e => h.apart (by subst e; rfl)
  obtain ⟨own1, hg1⟩ := h.own.stored d (.int .u8 (byteAt (bs ++ m) d : Nat))
  rw [pkN_set bs m d h1] at own1
  have hR : R < w.heap.size := (Array.getElem?_eq_some_iff.1 h.row).1
  have hrow : (w.setCell ⟨g, d, none⟩ (.int .u8 (byteAt (bs ++ m) d : Nat))).heap[R]? = _ := (hg1.block R hR (fun e => by injection e with e; exact hgR e.symm)).trans h.row
  have hl : (bs ++ m).length = bs.length + m.length := List.length_append
  refine ⟨⟨?_, ?_, ?_, by rw [hl]; exact hle⟩, ⟨?_, .inl rfl⟩⟩
  · rw [hl]; exact heap_setCell_same _ R 0 _ _ _ hrow
  · rw [hl, show (bs.length + m.length + 7) / 8 = d + 1 from by omega]
    exact ownsRow_setCell_other own1 (by intro e; exact h.apart e) _
  · intro b hb2
    rcases List.mem_append.1 hb2 with h2 | h2
    · exact hb b h2
    · exact hbm b h2
  · exact ((Fr.refl _ w).setCell (p := ⟨g, d, none⟩) (.inr rfl) _).setCell (p := ⟨R, 0, none⟩) (.inl rfl) _
theorem u8_or_nat (a b : Nat) (ha : a < 256) (hb : b < 256) : bits .or .u8 (a : Int) (b : Int) = ((a ||| b : Nat) : Int) := by
  have hx : a ||| b < 2 ^ 8 := Nat.or_lt_two_pow (by omega) (by omega)
  show IntKind.u8.wrap ((BitVec.ofInt 8 (a : Int) ||| BitVec.ofInt 8 (b : Int)).toNat : Int) = _
  rw [BitVec.toNat_or, ofInt_u8 a ha, ofInt_u8 b hb]
  simp only [IntKind.wrap, IntKind.bits, IntKind.signed]
  simp
  omega
theorem wrap_i64_nat (K : Nat) (h : K < 9223372036854775808) : IntKind.i64.wrap (K : Int) = K := by rw [IntKind.wrap_i64]; omega
theorem wrap_less_i (K : Nat) (h1 : 1 ≤ K) (h : K < 9223372036854775808) : IntKind.i64.wrap ((K : Int) - 1) = ((K - 1 : Nat) : Int) := by rw [IntKind.wrap_i64]; omega
theorem wrap_u8_nat (K : Nat) (h : K < 256) : IntKind.u8.wrap (K : Int) = K := by
  simp only [IntKind.wrap, IntKind.bits, IntKind.signed]
  simp
  omega
/-- A step of put: the bits that go into one byte. -/
theorem put_step {B : List Nat} {v n j k s d r a M : Nat} {v2 : Int} (hB : ∀ b ∈ B, b < 2) (hl : B.length = 8 * d + s) (hk : s + k + r = 8) (ha : n - j - k = a) (hv : v < 281474976710656) (hjk : j + k ≤ n) (hv2 : v2 = ((v / 2 ^ a : Nat) : Int)) (hM : M = 2 ^ k - 1) :
    ∃ y z : Nat, z = y * 2 ^ r ∧ bits .and .i64 v2 (M : Int) = y ∧ IntKind.i64.wrap ((y : Int) * 2 ^ r) = z ∧ wrap64 ((y : Int) * 2 ^ r) = z ∧ IntKind.u8.wrap (z : Int) = z ∧ bits .or .u8 ((byteAt B d : Nat) : Int) (z : Int) = ((byteAt (B ++ ((vb v n).drop j).take k) d : Nat) : Int) := by
  obtain ⟨h1, h2⟩ := pow8 k (by omega)
  have hml : (((vb v n).drop j).take k).length = k := by rw [List.length_take, List.length_drop, vb_length]; omega
  obtain ⟨e1, e2⟩ := byteAt_new B (((vb v n).drop j).take k) d s k hl (by omega) hml
  rw [vb_part v n j k hjk, ha, show 8 - s - k = r from by omega] at e1
  have hy : v / 2 ^ a % 2 ^ k < 2 ^ k := Nat.mod_lt _ (by omega)
  have hz : v / 2 ^ a % 2 ^ k * 2 ^ r < 2 ^ (8 - s) := by
    have h3 : v / 2 ^ a % 2 ^ k * 2 ^ r < 2 ^ k * 2 ^ r := Nat.mul_lt_mul_of_pos_right hy (Nat.pow_pos (by omega))
    rwa [← Nat.pow_add, show k + r = 8 - s from by omega] at h3
  have h256 : 2 ^ (8 - s) ≤ 256 := (pow8 (8 - s) (by omega)).2
  have hA := byteAt_lt hB d
  have h6 : v / 2 ^ a ≤ v := Nat.div_le_self _ _
  have e7 : (v / 2 ^ a) &&& (2 ^ k - 1) = v / 2 ^ a % 2 ^ k := Nat.and_two_pow_sub_one_eq_mod _ _
  have hor : byteAt B d ||| v / 2 ^ a % 2 ^ k * 2 ^ r = byteAt B d + v / 2 ^ a % 2 ^ k * 2 ^ r := by
    have e3 : byteAt B d = 2 ^ (8 - s) * (byteAt B d / 2 ^ (8 - s)) := by
      have := Nat.div_add_mod (byteAt B d) (2 ^ (8 - s))
      rw [e2, Nat.add_zero] at this; exact this.symm
    rw [e3]
    exact (Nat.two_pow_add_eq_or_of_lt hz _).symm
  refine ⟨v / 2 ^ a % 2 ^ k, v / 2 ^ a % 2 ^ k * 2 ^ r, rfl, ?_, ?_, ?_, ?_, ?_⟩
  · rw [hv2, hM, i64_and_nat (v / 2 ^ a) (2 ^ k - 1) (by clear e7 hz hy hor e1 e2; omega) (by clear e7 hz hy hor e1 e2; omega), e7]
  · have e4 : ((v / 2 ^ a % 2 ^ k : Nat) : Int) * 2 ^ r = ((v / 2 ^ a % 2 ^ k * 2 ^ r : Nat) : Int) := by simp
    rw [e4, wrap_i64_nat _ (by clear e7 hor e1 e2 e4; omega)]
  · have e4 : ((v / 2 ^ a % 2 ^ k : Nat) : Int) * 2 ^ r = ((v / 2 ^ a % 2 ^ k * 2 ^ r : Nat) : Int) := by simp
    rw [e4, wrap_nat _ (by clear e7 hor e1 e2 e4; omega)]
  · exact wrap_u8_nat _ (Nat.lt_of_lt_of_le hz h256)
  · rw [u8_or_nat _ _ hA (Nat.lt_of_lt_of_le hz h256), hor, e1]
end Go.Proofs.YtgohfbfdhdepnaaDoor
