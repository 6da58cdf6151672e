/-
  More words: append in a region that draws; xor of bytes; a world given a letter.
-/
import Derived.Test.YticfmhmkgcdhgaaBo1
import Derived.Deep.AppendLies
import Derived.Deep.RegionHeld3
set_option linter.unusedSimpArgs false
set_option linter.unusedVariables false
namespace Go.Proofs.Yticfmhmkgcdhgaa
open Go.RowKit

/-- append of ONE element onto a row of the call's own, the element in a block that is known whole: for a region that draws. -/
theorem wp_app1 {P : Program} {w0 W : World} {o : Oper} {a : Act} {K : Act → World → Prop} {Q : Exit → Act → World → Prop} (s x : Operand) (t : TypeId)
    (ho : o.op = .call { callee := .builtin .append, args := #[s, x], argTypes := #[t, t] })
    {base : Nat} {e : TypeId} {z : Value} {size bytes : Nat} (ht : P.underlying t = some (.slice e)) (hi : (P.info? e).map (fun i => (i.zero, i.size, i.bytes)) = some (some z, size, bytes)) (hzs : z.cells.size = size) (hsz : 0 < size)
    {v : Value} {n : Nat} {xs : List Value} (hs : a.eval s = v) (hown : W.ownsRow base e size v n xs) (hB : w0.heap.size ≤ base) (hbW : base ≤ W.heap.size) (hb : Below w0.heap.size w0 W)
    {arr : Array Value} {H : Nat} {t' : TypeId} (hx : a.eval x = .slice (some ⟨H, 0, none⟩) 1 1) (hblk : W.heap[H]? = some (.cells arr t' (0, 0))) (hl : arr.size = size) (h1 : ∀ u ∈ arr.toList, u.oneCell' = true)
    (hbytes : (n + 1) * bytes ≤ 140737488355328) (h63 : n + 1 ≤ maxLen)
    (h : ∀ v' w1, w1.ownsRow base e size v' (n + 1) (xs ++ arr.toList) → Below w0.heap.size w0 w1 → base ≤ w1.heap.size → K (a.put o.dst v') w1) :
    o.wp P a W K Q := by
  obtain ⟨i, hi, hz0, hz1, hz2⟩ := info_parts hi
  refine wp_append_own W s x t ho base e i z size bytes ht hi hz0 hz1 hz2 hzs hsz v n xs hs hown ⟨H, 0, none⟩ 1 1 arr.toList hx (by simp [hl]) (World.news_of_block hblk) h1 h63 hbytes hbW ?_
  intro v' w1 hown1 hgrow _
  refine h v' w1 hown1 (hb.grown hgrow (by omega) ?_) (by have := hgrow.size; omega)
  intro k hk
  have := (hown.lt k hk).1
  omega
theorem step_app1 {P : Program} {w0 W : World} {ops : Array Oper} {o : Oper} {a : Act} {K : Act → World → Prop} {Q : Exit → Act → World → Prop} {E : Prop} (hgd : o.guard = none) (s x : Operand) (t : TypeId)
    (ho : o.op = .call { callee := .builtin .append, args := #[s, x], argTypes := #[t, t] })
    {base : Nat} {e : TypeId} {z : Value} {size bytes : Nat} (ht : P.underlying t = some (.slice e)) (hi : (P.info? e).map (fun i => (i.zero, i.size, i.bytes)) = some (some z, size, bytes)) (hzs : z.cells.size = size) (hsz : 0 < size)
    {v : Value} {n : Nat} {xs : List Value} (hs : a.eval s = v) (hown : W.ownsRow base e size v n xs) (hB : w0.heap.size ≤ base) (hbW : base ≤ W.heap.size) (hb : Below w0.heap.size w0 W)
    {arr : Array Value} {H : Nat} {t' : TypeId} (hx : a.eval x = .slice (some ⟨H, 0, none⟩) 1 1) (hblk : W.heap[H]? = some (.cells arr t' (0, 0))) (hl : arr.size = size) (h1 : ∀ u ∈ arr.toList, u.oneCell' = true)
    (hbytes : (n + 1) * bytes ≤ 140737488355328) (h63 : n + 1 ≤ maxLen)
    (h : ∀ v' w1, w1.ownsRow base e size v' (n + 1) (xs ++ arr.toList) → Below w0.heap.size w0 w1 → base ≤ w1.heap.size → K (a.put o.dst v') w1) :
    if Region.wanted o (yielded ops a.tmps) = true then Oper.wp P o a W K Q else E := by
  have hw : Region.wanted o (yielded ops a.tmps) = true := by simp [Region.wanted, hgd]
  rw [if_pos hw]
  exact wp_app1 s x t ho ht hi hzs hsz hs hown hB hbW hb hx hblk hl h1 hbytes h63 h

theorem ofInt_u8 (a : Nat) (ha : a < 256) : (BitVec.ofInt 8 (a : Int)).toNat = a := by
  rw [BitVec.ofInt_natCast, BitVec.toNat_ofNat]; exact Nat.mod_eq_of_lt (by omega)
theorem u8_xor_nat (a b : Nat) (ha : a < 256) (hb : b < 256) : bits .xor .u8 (a : Int) (b : Int) = ((a ^^^ b : Nat) : Int) := by
  have hx : a ^^^ b < 2 ^ 8 := Nat.xor_lt_two_pow (by omega) (by omega)
  show IntKind.u8.wrap ((BitVec.ofInt 8 (a : Int) ^^^ BitVec.ofInt 8 (b : Int)).toNat : Int) = _
  rw [BitVec.toNat_xor, ofInt_u8 a ha, ofInt_u8 b hb]
  simp only [IntKind.wrap, IntKind.bits, IntKind.signed]
  simp
  omega
theorem one_u8 (n : Int) : ∀ u ∈ (#[Value.int .u8 n]).toList, u.oneCell' = true := one_int _ _
theorem Rd.src {w : World} {A : Option Addr} {xs : List Value} (h : Rd w A xs) (hpos : 0 < xs.length) : ∃ ad, A = some ad ∧ ∀ j v, xs[j]? = some v → w.cell? (ad.add j) = some v := by
  obtain ⟨b, o, rfl, _⟩ := h.at_ hpos
  refine ⟨_, rfl, fun j v hv => ?_⟩
  obtain ⟨b', o', e, hcell⟩ := h j v hv
  simp at e
  obtain ⟨rfl, rfl⟩ := e
  rw [show (⟨b, o, none⟩ : Addr).add j = ⟨b, o + j, none⟩ from by unfold Addr.add; split <;> simp_all]
  exact hcell
/-- A bit of a number, as the walk reckons it. -/
theorem and_one_int (d k : Nat) (hd : d < 9223372036854775808) : bits .and .i64 ((d : Int) / 2 ^ k) 1 = ((d / 2 ^ k % 2 : Nat) : Int) := by
  have e := i64_and_nat (d / 2 ^ k) 1 (Nat.lt_of_le_of_lt (Nat.div_le_self _ _) hd) (by omega)
  rw [Nat.and_one_is_mod] at e
  rw [show ((d : Int) / 2 ^ k) = ((d / 2 ^ k : Nat) : Int) from by simp]
  exact e
theorem free_blk {w : World} {g : Nat} {cs : Array Value} {t : TypeId} (h : w.heap[g]? = some (.cells cs t (0, 0))) (i : Nat) : w.frozen? ⟨g, i, none⟩ = false := by
  simp [World.frozen?, h]
end Go.Proofs.Yticfmhmkgcdhgaa
