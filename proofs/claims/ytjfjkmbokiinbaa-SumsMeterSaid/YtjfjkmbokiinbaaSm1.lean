/-
  Words that all walks of this seat share: a slice that reads as a list of values (Rd), bytes (BS), a list of byte slices (BSS); bit operations of int; small helpers.
  The walks over jetsam/sums: each function's contract.
  The walks over jetsam/sums: Sum8, Sum16, the shifts.
  What may turn in a step (the blocks of S alone).
  A region that draws its order: a head of operations that yield in every world that meets S (still calls too) taken first, the rest (an alloc, a great store) by hand.
  Steps of the head of a drawn region.
-/
import Derived.WalkKit
import Derived.Lib.Hide
import Derived.WalkSmall
import Derived.Deep.Draws
import Derived.Laws.OwnMore
import Derived.Deep.AppendLies
import Derived.Laws.BitsAllLaws
import Derived.Laws.BitsLemmas
import Derived.OwnWalk
import Derived.Maps.AppendAt
import Derived.Test.YtjfjkmbokiinbaaRows
import Derived.WalkSpells
import Derived.Deep.QuietTactic
import Derived.BigQuiet
import Derived.Deep.RegionHeld3
import Derived.Deep.DeepCutAuto
import Derived.KernelRfl
import Derived.Deep.WholeRow
import Derived.StillTail
import Derived.Laws.CopyOwn
set_option linter.unusedSimpArgs false
set_option linter.unusedVariables false
namespace Go.Proofs.Ytjfjkmbokiinbaa
open Go.RowKit

/-- The slice address A reads, cell by cell, as the values xs. -/
def Rd (w : World) (A : Option Addr) (xs : List Value) : Prop :=
  ∀ j u, xs[j]? = some u → ∃ b o, A = some ⟨b, o, none⟩ ∧ w.cell? ⟨b, o + j, none⟩ = some u

theorem cell_lt {w : World} {b o : Nat} {u : Value} (h : w.cell? ⟨b, o, none⟩ = some u) : b < w.heap.size := by
  rcases Nat.lt_or_ge b w.heap.size with hlt | hge
  · exact hlt
  · simp [World.cell?, Array.getElem?_eq_none hge] at h

theorem Rd.nil (w : World) (A : Option Addr) : Rd w A [] := by intro j u h; simp at h
theorem Rd.below {w w' : World} {A : Option Addr} {xs : List Value} (h : Rd w A xs) (hb : Below w.heap.size w w') : Rd w' A xs := by
  intro j u hu
  obtain ⟨b, o, e, hc⟩ := h j u hu
  exact ⟨b, o, e, (hb.cell (p := ⟨b, o + j, none⟩) (cell_lt hc)).trans hc⟩
theorem Rd.at_ {w : World} {A : Option Addr} {xs : List Value} (h : Rd w A xs) {j : Nat} (hj : j < xs.length) :
    ∃ b o, A = some ⟨b, o, none⟩ ∧ w.cell? ⟨b, o + j, none⟩ = some xs[j] := h j xs[j] (List.getElem?_eq_getElem hj)

/-- Bytes as values. -/
def bv (l : List UInt8) : List Value := l.map fun x => .int .u8 (x.toNat : Int)
theorem bv_length (l : List UInt8) : (bv l).length = l.length := by simp [bv]
theorem bv_get (l : List UInt8) (j : Nat) (h : j < l.length) : (bv l)[j]? = some (.int .u8 ((l[j]'h).toNat : Int)) := by simp [bv, h]

/-- The value v is a slice that reads as the bytes l. -/
def BS (w : World) (v : Value) (l : List UInt8) : Prop := ∃ A c, v = .slice A l.length c ∧ l.length ≤ c ∧ Rd w A (bv l)
theorem BS.below {w w' : World} {v : Value} {l : List UInt8} (h : BS w v l) (hb : Below w.heap.size w w') : BS w' v l := by
  obtain ⟨A, c, e, hc, hr⟩ := h
  exact ⟨A, c, e, hc, hr.below hb⟩

/-- The value v is a slice of slices that reads as the lists of bytes ls. -/
def BSS (w : World) (v : Value) (ls : List (List UInt8)) : Prop :=
  ∃ (A : Option Addr) (c : Nat) (vs : List Value), v = .slice A ls.length c ∧ ls.length ≤ c ∧ Rd w A vs ∧ vs.length = ls.length ∧ ∀ (j : Nat) (x : Value) (y : List UInt8), vs[j]? = some x → ls[j]? = some y → BS w x y
theorem BSS.below {w w' : World} {v : Value} {ls : List (List UInt8)} (h : BSS w v ls) (hb : Below w.heap.size w w') : BSS w' v ls := by
  obtain ⟨A, c, vs, e, hc, hr, hl, hx⟩ := h
  exact ⟨A, c, vs, e, hc, hr.below hb, hl, fun j x y h1 h2 => (hx j x y h1 h2).below hb⟩

theorem Rd.alloc {w : World} {A : Option Addr} {xs : List Value} (h : Rd w A xs) (o : Obj) : Rd (w.alloc o) A xs := h.below ((Below.refl _ _).alloc (Nat.le_refl _) _)
theorem Rd.drewN {w : World} {A : Option Addr} {xs : List Value} (h : Rd w A xs) (n : Nat) : Rd (w.drewN n) A xs := h
theorem Rd.drew {w : World} {A : Option Addr} {xs : List Value} (h : Rd w A xs) : Rd w.drew A xs := h
theorem Rd.new (w : World) (cs : Array Value) (t : TypeId) : Rd (w.alloc (.cells cs t)) (some ⟨w.heap.size, 0, none⟩) cs.toList := by
  intro j u hu
  refine ⟨w.heap.size, 0, rfl, ?_⟩
  rw [cell_of_row _ w.heap.size (0 + j) cs t (0, 0) (heap_alloc_new w _)]
  simpa using hu
theorem BS.alloc {w : World} {v : Value} {l : List UInt8} (h : BS w v l) (o : Obj) : BS (w.alloc o) v l := h.below ((Below.refl _ _).alloc (Nat.le_refl _) _)
theorem BS.drewN {w : World} {v : Value} {l : List UInt8} (h : BS w v l) (n : Nat) : BS (w.drewN n) v l := h
/-- A new slice of slices. -/
theorem BSS.new (w : World) (vs : List Value) (ls : List (List UInt8)) (t : TypeId) (H n : Nat) (hH : w.heap.size = H) (hn : n = ls.length) (hl : vs.length = ls.length) (h : ∀ (j : Nat) (x : Value) (y : List UInt8), vs[j]? = some x → ls[j]? = some y → BS w x y) :
    BSS (w.alloc (.cells vs.toArray t)) (.slice (some ⟨H, 0, none⟩) n n) ls := by
  subst hn; subst hH
  exact ⟨_, _, vs, rfl, Nat.le_refl _, by simpa using Rd.new w vs.toArray t, hl, fun j x y h1 h2 => (h j x y h1 h2).alloc _⟩
theorem BSS.one {w : World} {v : Value} {l : List UInt8} (h : BS w v l) (t : TypeId) {H : Nat} (hH : w.heap.size = H) : BSS (w.alloc (.cells #[v] t)) (.slice (some ⟨H, 0, none⟩) 1 1) [l] :=
  BSS.new w [v] [l] t H 1 hH rfl rfl fun j x y h1 h2 => by
    match j, h1, h2 with
    | 0, h1, h2 => simp at h1 h2; subst h1; subst h2; exact h
theorem BSS.two {w : World} {v v' : Value} {l l' : List UInt8} (h : BS w v l) (h' : BS w v' l') (t : TypeId) {H : Nat} (hH : w.heap.size = H) : BSS (w.alloc (.cells #[v, v'] t)) (.slice (some ⟨H, 0, none⟩) 2 2) [l, l'] :=
  BSS.new w [v, v'] [l, l'] t H 2 hH rfl rfl fun j x y h1 h2 => by
    match j, h1, h2 with
    | 0, h1, h2 => simp at h1 h2; subst h1; subst h2; exact h
    | 1, h1, h2 => simp at h1 h2; subst h1; subst h2; exact h'
theorem BSS.three {w : World} {v v' v'' : Value} {l l' l'' : List UInt8} (h : BS w v l) (h' : BS w v' l') (h'' : BS w v'' l'') (t : TypeId) {H : Nat} (hH : w.heap.size = H) : BSS (w.alloc (.cells #[v, v', v''] t)) (.slice (some ⟨H, 0, none⟩) 3 3) [l, l', l''] :=
  BSS.new w [v, v', v''] [l, l', l''] t H 3 hH rfl rfl fun j x y h1 h2 => by
    match j, h1, h2 with
    | 0, h1, h2 => simp at h1 h2; subst h1; subst h2; exact h
    | 1, h1, h2 => simp at h1 h2; subst h1; subst h2; exact h'
    | 2, h1, h2 => simp at h1 h2; subst h1; subst h2; exact h''
/-- A new slice of bytes. -/
theorem BS.new (w : World) (l : List UInt8) (cs : Array Value) (t : TypeId) (n : Nat) (hn : n = l.length) (hcs : cs.toList = bv l) {H : Nat} (hH : w.heap.size = H) : BS (w.alloc (.cells cs t)) (.slice (some ⟨H, 0, none⟩) n n) l := by
  subst hn; subst hH
  exact ⟨_, _, rfl, Nat.le_refl _, hcs ▸ Rd.new w cs t⟩

/-- s[:n] and s[n:]. -/
theorem Rd.take {w : World} {A : Option Addr} {xs : List Value} (h : Rd w A xs) (n : Nat) : Rd w A (xs.take n) := by
  intro j u hu
  rw [List.getElem?_take] at hu
  split at hu
  · exact h j u hu
  · cases hu
theorem Rd.drop {w : World} {A : Option Addr} {xs : List Value} (h : Rd w A xs) (n c : Nat) (hc : xs.length ≤ c) : Rd w (if c = n then A else A.map (·.add n)) (xs.drop n) := by
  intro j u hu
  rw [List.getElem?_drop] at hu
  obtain ⟨b, o, rfl, hcell⟩ := h (n + j) u hu
  have hlt : n + j < xs.length := (List.getElem?_eq_some_iff.1 hu).1
  rw [if_neg (by omega)]
  refine ⟨b, o + n, ?_, by rw [Nat.add_assoc]; exact hcell⟩
  show some _ = some _
  unfold Addr.add
  split <;> simp_all
theorem bv_take (l : List UInt8) (n : Nat) : bv (l.take n) = (bv l).take n := by simp [bv, List.map_take]
theorem bv_drop (l : List UInt8) (n : Nat) : bv (l.drop n) = (bv l).drop n := by simp [bv, List.map_drop]
theorem BS.of {w : World} {A : Option Addr} {c : Nat} {l : List UInt8} (h : Rd w A (bv l)) (hc : l.length ≤ c) : BS w (.slice A l.length c) l := ⟨A, c, rfl, hc, h⟩
theorem BS.take {w : World} {A : Option Addr} {c : Nat} {l : List UInt8} (h : Rd w A (bv l)) (hc : l.length ≤ c) {n : Nat} (hn : n ≤ l.length) : BS w (.slice A n c) (l.take n) :=
  ⟨A, c, by rw [List.length_take, Nat.min_eq_left hn], by rw [List.length_take]; omega, by rw [bv_take]; exact h.take n⟩
theorem BS.drop {w : World} {A : Option Addr} {c : Nat} {l : List UInt8} (h : Rd w A (bv l)) (hc : l.length ≤ c) {n : Nat} (hn : n ≤ l.length) :
    BS w (.slice (if c = n then A else A.map (·.add n)) (l.length - n) (c - n)) (l.drop n) :=
  ⟨_, _, by rw [List.length_drop], by rw [List.length_drop]; omega, by rw [bv_drop]; exact h.drop n c (by rw [bv_length]; exact hc)⟩
theorem BS.nil (w : World) : BS w (.slice none 0 0) [] := ⟨none, 0, rfl, Nat.le_refl _, Rd.nil _ _⟩

theorem ofInt_i64 (a : Nat) (ha : a < 9223372036854775808) : (BitVec.ofInt 64 (a : Int)).toNat = a := by
  rw [BitVec.ofInt_natCast, BitVec.toNat_ofNat]; exact Nat.mod_eq_of_lt (by omega)
theorem i64_and_nat (a b : Nat) (ha : a < 9223372036854775808) (hb : b < 9223372036854775808) : bits .and .i64 (a : Int) (b : Int) = ((a &&& b : Nat) : Int) := by
  have hx : a &&& b < 2 ^ 63 := Nat.and_lt_two_pow _ (by omega)
  show IntKind.i64.wrap ((BitVec.ofInt 64 (a : Int) &&& BitVec.ofInt 64 (b : Int)).toNat : Int) = _
  rw [BitVec.toNat_and, ofInt_i64 a ha, ofInt_i64 b hb, IntKind.wrap_i64]
  omega
theorem i64_or_nat (a b : Nat) (ha : a < 9223372036854775808) (hb : b < 9223372036854775808) : bits .or .i64 (a : Int) (b : Int) = ((a ||| b : Nat) : Int) := by
  have hx : a ||| b < 2 ^ 63 := Nat.or_lt_two_pow (by omega) (by omega)
  show IntKind.i64.wrap ((BitVec.ofInt 64 (a : Int) ||| BitVec.ofInt 64 (b : Int)).toNat : Int) = _
  rw [BitVec.toNat_or, ofInt_i64 a ha, ofInt_i64 b hb, IntKind.wrap_i64]
  omega
theorem i64_xor_nat (a b : Nat) (ha : a < 9223372036854775808) (hb : b < 9223372036854775808) : bits .xor .i64 (a : Int) (b : Int) = ((a ^^^ b : Nat) : Int) := by
  have hx : a ^^^ b < 2 ^ 63 := Nat.xor_lt_two_pow (by omega) (by omega)
  show IntKind.i64.wrap ((BitVec.ofInt 64 (a : Int) ^^^ BitVec.ofInt 64 (b : Int)).toNat : Int) = _
  rw [BitVec.toNat_xor, ofInt_i64 a ha, ofInt_i64 b hb, IntKind.wrap_i64]
  omega
theorem ret_int {k : IntKind} {a b : Int} (h : a = b) : Ending.returned (.int k a) = .returned (.int k b) := by rw [h]
theorem ret_bool {a b : Bool} (h : a = b) : Ending.returned (.bool a) = .returned (.bool b) := by rw [h]

theorem bmono {B : Nat} {w a b : World} (h : Below B w a) (h' : Below a.heap.size a b) (hB : B ≤ a.heap.size) : Below B w b := h.trans (h'.mono hB)
theorem bnext {w a b : World} (h : Below w.heap.size w a) (h' : Below a.heap.size a b) : Below w.heap.size w b := h.trans (h'.mono h.size)

theorem bal {w a : World} (h : Below w.heap.size w a) (o : Obj) : Below w.heap.size w (a.alloc o) := h.alloc h.size o

/-- Ints as values. -/
def zv (l : List Int) : List Value := l.map fun x => .int .i64 x
theorem zv_length (l : List Int) : (zv l).length = l.length := by simp [zv]
theorem zv_get (l : List Int) (j : Nat) (h : j < l.length) : (zv l)[j]? = some (.int .i64 (l[j]'h)) := by simp [zv, h]
theorem zv_append (l m : List Int) : zv (l ++ m) = zv l ++ zv m := by simp [zv]
theorem bv_append (l m : List UInt8) : bv (l ++ m) = bv l ++ bv m := by simp [bv]
/-- Natural numbers as values. -/
def nv (l : List Nat) : List Value := l.map fun (x : Nat) => .int .i64 (x : Int)
theorem nv_length (l : List Nat) : (nv l).length = l.length := by simp [nv]
theorem nv_get (l : List Nat) (j : Nat) (h : j < l.length) : (nv l)[j]? = some (.int .i64 ((l[j]'h : Nat) : Int)) := by simp [nv, h]
theorem nv_append (l m : List Nat) : nv (l ++ m) = nv l ++ nv m := by simp [nv]

/-- An owned row, read. -/
theorem own_rd {w : World} {base : Nat} {e : TypeId} {v : Value} {n : Nat} {xs : List Value} (h : w.ownsRow base e 1 v n xs) :
    ∃ A c, v = .slice A n c ∧ n ≤ c ∧ Rd w A xs := by
  have hl := h.1
  rcases h.2 with ⟨rfl, rfl⟩ | ⟨g, cap, cur, rfl, hb, hg, hn, hm, hs, ht⟩
  · refine ⟨none, 0, rfl, Nat.le_refl _, ?_⟩
    have : xs = [] := List.eq_nil_of_length_eq_zero (by omega)
    subst this
    exact Rd.nil _ _
  · refine ⟨some ⟨g, 0, none⟩, cap, rfl, hn, fun j u hu => ⟨g, 0, rfl, ?_⟩⟩
    have := h.cells (g := g) rfl j u hu
    rwa [show (⟨g, 0, none⟩ : Addr).add j = ⟨g, 0 + j, none⟩ from by unfold Addr.add; split <;> simp_all] at this

/-- append of ONE element onto a row of the call's own, the element boxed right before: the world's part below w0 is kept. -/
theorem app1 {P : Program} {w0 W : World} {ops : Array Oper} {rest : List Oper} {o : Oper} {a : Act} {Q : Exit → Act → World → Prop} (hgd : o.guard = none) (s x : Operand) (t : TypeId)
    (ho : o.op = .call { callee := .builtin .append, args := #[s, x], argTypes := #[t, t] })
    {base : Nat} {e : TypeId} {z : Value} {size bytes : Nat} (ht : P.underlying t = some (.slice e)) (hi : (P.info? e).map (fun i => (i.zero, i.size, i.bytes)) = some (some z, size, bytes)) (hzs : z.cells.size = size) (hsz : 0 < size)
    {v : Value} {n : Nat} {xs : List Value} (hs : a.eval s = v) (hown : W.ownsRow base e size v n xs) (hB : w0.heap.size ≤ base) (hbW : base ≤ W.heap.size) (hb : Below w0.heap.size w0 W)
    {arr : Array Value} (hx : a.eval x = .slice (some ⟨W.heap.size, 0, none⟩) 1 1) (hl : arr.size = size) (h1 : ∀ u ∈ arr.toList, u.oneCell' = true)
    (hbytes : (n + 1) * bytes ≤ 140737488355328) (h63 : n + 1 ≤ maxLen)
    (h : ∀ v' w1, w1.ownsRow base e size v' (n + 1) (xs ++ arr.toList) → Below w0.heap.size w0 w1 → base ≤ w1.heap.size → wpList P ops Q rest (a.put o.dst v') w1) :
    wpList P ops Q (o :: rest) a (W.alloc (.cells arr e)) := by
  obtain ⟨i, hi, hz0, hz1, hz2⟩ := info_parts hi
  refine wpList_append_own (W.alloc (.cells arr e)) hgd s x t ho base e i z size bytes ht hi hz0 hz1 hz2 hzs hsz v n xs hs (hown.alloc _) ⟨W.heap.size, 0, none⟩ 1 1 arr.toList hx (by simp [hl]) ?_ h1 h63 hbytes (by simp; omega) ?_
  · intro j u hu
    have : (⟨W.heap.size, 0, none⟩ : Addr).add j = ⟨W.heap.size, j, none⟩ := by unfold Addr.add; split <;> simp_all
    rw [this, cell_of_row _ W.heap.size j arr e (0, 0) (heap_alloc_new W _)]
    simpa using hu
  · intro v' w1 hown1 hgrow _
    refine h v' w1 hown1 ((hb.alloc (by omega) _).grown hgrow (by simp; omega) ?_) ?_
    · intro k hk
      have := (hown.lt k hk).1
      omega
    · have := hgrow.size; simp at this; omega

theorem one_int (k : IntKind) (n : Int) : ∀ u ∈ (#[Value.int k n]).toList, u.oneCell' = true := by intro u hu; simp at hu; subst hu; rfl

/-- f, so many times. -/
def it (f : Nat → Nat) : Nat → Nat → Nat
  | 0, s => s
  | k + 1, s => f (it f k s)
theorem it_lt {f : Nat → Nat} {B : Nat} (h : ∀ s, s < B → f s < B) : ∀ (k s : Nat), s < B → it f k s < B
  | 0, _, hs => hs
  | k + 1, s, hs => h _ (it_lt h k s hs)
end Go.Proofs.Ytjfjkmbokiinbaa

namespace Go.Proofs.Ytjfjkmbokiinbaa
open Go.RowKit

def step8 (s : Nat) : Nat := if 256 ≤ 2 * s then (2 * s) ^^^ 263 else 2 * s
def step16 (s : Nat) : Nat := if 65536 ≤ 2 * s then (2 * s) ^^^ 98309 else 2 * s

theorem xor_low8 (s : Nat) (hs : s < 256) (h : 256 ≤ 2 * s) : (2 * s) ^^^ 263 < 256 := by
  have : ∀ s : Fin 256, 256 ≤ 2 * s.val → (2 * s.val) ^^^ 263 < 256 := by decide +kernel
  exact this ⟨s, hs⟩ h
theorem step8_lt (s : Nat) (hs : s < 256) : step8 s < 256 := by
  unfold step8; split
  · exact xor_low8 s hs (by assumption)
  · omega
theorem xor_low16 (s : Nat) (hs : s < 65536) (h : 65536 ≤ 2 * s) : (2 * s) ^^^ 98309 < 65536 := by
  refine Nat.lt_pow_two_of_testBit (n := 16) _ fun i hi => ?_
  rw [Nat.testBit_xor]
  have e : ∀ n, n < 131072 → 65536 ≤ n → n.testBit i = decide (i = 16) := by
    intro n h1 h2
    by_cases e : i = 16
    · subst e
      rw [Nat.testBit_eq_decide_div_mod_eq]
      simp
      omega
    · rw [decide_eq_false e]
      exact Nat.testBit_lt_two_pow (Nat.lt_of_lt_of_le h1 (Nat.pow_le_pow_right (n := 2) (by decide) (show 17 ≤ i by omega)))
  rw [e _ (by omega) h, e 98309 (by decide) (by decide)]
  simp
theorem step16_lt (s : Nat) (hs : s < 65536) : step16 s < 65536 := by
  unfold step16; split
  · exact xor_low16 s hs (by assumption)
  · omega

set_option maxHeartbeats 400000 in
theorem step8_any (s : Nat) (hs : s < 256) (w : World) :
    Calls Try.prog 32 #[.agg #[.int .i64 8, .int .i64 7], .int .i64 s] w fun e w' =>
      e = .returned (.int .i64 (step8 s)) ∧ Below w.heap.size w w' := by
  by_cases h : 256 ≤ 2 * s
  · have h1 : ((s:Int) * 2 / 256 != 0) = true := by rw [bne_iff_ne]; omega
    have h2 : step8 s = (2 * s) ^^^ 263 := if_pos h
    have h3 := Lib.hid h2; clear h2
    go_enter Try.func32, Try.ntmps32
    go_wp2
    go_quiet (fail)
    go_wp2
    go_ret
    refine ⟨ret_int ?_, by repeat (first | exact Below.refl _ _ | assumption | refine below_drewN ?_ _ | refine Below.drew ?_ | refine Below.alloc ?_ (Nat.le_refl _) _ | refine bal ?_ _ | refine bnext ?_ (by assumption))⟩
    rw [h3.out]
    have e1 := i64_or_nat 256 7 (by omega) (by omega)
    have e2 := i64_xor_nat (2 * s) 263 (by omega) (by omega)
    simp only [Int.natCast_mul, Int.cast_ofNat_Int] at e1 e2
    rw [e1, Int.mul_comm]
    exact e2
  · have h1 : ((s:Int) * 2 / 256 != 0) = false := by rw [bne_eq_false_iff_eq]; omega
    have h2 : step8 s = 2 * s := if_neg h
    have h3 := Lib.hid h2; clear h2
    go_enter Try.func32, Try.ntmps32
    go_wp2
    go_ret
    exact ⟨by rw [h3.out]; simp; omega, by repeat (first | exact Below.refl _ _ | assumption | refine below_drewN ?_ _ | refine Below.drew ?_ | refine Below.alloc ?_ (Nat.le_refl _) _ | refine bal ?_ _ | refine bnext ?_ (by assumption))⟩
set_option maxHeartbeats 400000 in
theorem step16_any (s : Nat) (hs : s < 65536) (w : World) :
    Calls Try.prog 32 #[.agg #[.int .i64 16, .int .i64 32773], .int .i64 s] w fun e w' =>
      e = .returned (.int .i64 (step16 s)) ∧ Below w.heap.size w w' := by
  by_cases h : 65536 ≤ 2 * s
  · have h1 : ((s:Int) * 2 / 65536 != 0) = true := by rw [bne_iff_ne]; omega
    have h2 : step16 s = (2 * s) ^^^ 98309 := if_pos h
    have h3 := Lib.hid h2; clear h2
    go_enter Try.func32, Try.ntmps32
    go_wp2
    go_quiet (fail)
    go_wp2
    go_ret
    refine ⟨ret_int ?_, by repeat (first | exact Below.refl _ _ | assumption | refine below_drewN ?_ _ | refine Below.drew ?_ | refine Below.alloc ?_ (Nat.le_refl _) _ | refine bal ?_ _ | refine bnext ?_ (by assumption))⟩
    rw [h3.out]
    have e1 := i64_or_nat 65536 32773 (by omega) (by omega)
    have e2 := i64_xor_nat (2 * s) 98309 (by omega) (by omega)
    simp only [Int.natCast_mul, Int.cast_ofNat_Int] at e1 e2
    rw [e1, Int.mul_comm]
    exact e2
  · have h1 : ((s:Int) * 2 / 65536 != 0) = false := by rw [bne_eq_false_iff_eq]; omega
    have h2 : step16 s = 2 * s := if_neg h
    have h3 := Lib.hid h2; clear h2
    go_enter Try.func32, Try.ntmps32
    go_wp2
    go_ret
    exact ⟨by rw [h3.out]; simp; omega, by repeat (first | exact Below.refl _ _ | assumption | refine below_drewN ?_ _ | refine Below.drew ?_ | refine Below.alloc ?_ (Nat.le_refl _) _ | refine bal ?_ _ | refine bnext ?_ (by assumption))⟩

def one8 (x : Nat) : Nat := it step8 8 (x)
theorem one8_lt (x : Nat) (h : x < 256) : one8 x < 256 := it_lt step8_lt 8 _ (by omega)
set_option maxHeartbeats 400000 in
theorem one8_any (x : Nat) (hx : x < 256) (w : World) :
    Calls Try.prog 22 #[.agg #[.int .i64 8, .int .i64 7], .int .i64 x] w fun e w' =>
      e = .returned (.int .i64 (one8 x)) ∧ Below w.heap.size w w' := by
  go_enter Try.func22, Try.ntmps22
  go_wp2_with fail
  go_loopw [5, 11] (fun s i wr => ∃ k : Nat, k ≤ 8 ∧ i = .int .i64 k ∧ s = .int .i64 (it step8 k (x) : Nat) ∧ Below w.heap.size w wr ∧ wr.cell? ⟨w.heap.size, 0, none⟩ = some (.int .i64 8) ∧ wr.cell? ⟨w.heap.size, 1, none⟩ = some (.int .i64 7) ∧ w.heap.size < wr.heap.size) (fun _ i _ => 8 - (intOf i).toNat)
  case atStart => exact ⟨0, by omega, rfl, by simp [it], by repeat (first | exact Below.refl _ _ | assumption | refine below_drewN ?_ _ | refine Below.drew ?_ | refine Below.alloc ?_ (Nat.le_refl _) _ | refine bal ?_ _ | refine bnext ?_ (by assumption)), by go_simp, by go_simp, by simp⟩
  case round =>
    obtain ⟨k, hk, rfl, rfl, hb, hc0, hc1, hsz⟩ := hrel
    have hlt := it_lt step8_lt k (x) (by omega)
    by_cases hkk : k < 8
    · go_wp2_with (go_at_call 32; refine (step8_any _ hlt _).mono ?_; rintro e w1 ⟨rfl, hb1⟩)
      go_roundw
      case rel =>
        exact ⟨k + 1, by omega, by go_num, rfl, bnext hb hb1, (hb1.cell (p := ⟨w.heap.size, 0, none⟩) hsz).trans hc0, (hb1.cell (p := ⟨w.heap.size, 1, none⟩) hsz).trans hc1, Nat.lt_of_lt_of_le hsz hb1.size⟩
      case measure => simp [intOf] <;> omega
    · obtain rfl : k = 8 := by omega
      go_wp2_with fail
      go_ret
      exact ⟨rfl, hb⟩

def one16 (x : Nat) : Nat := it step16 8 (x * 256)
theorem one16_lt (x : Nat) (h : x < 256) : one16 x < 65536 := it_lt step16_lt 8 _ (by omega)
set_option maxHeartbeats 400000 in
theorem one16_any (x : Nat) (hx : x < 256) (w : World) :
    Calls Try.prog 22 #[.agg #[.int .i64 16, .int .i64 32773], .int .i64 x] w fun e w' =>
      e = .returned (.int .i64 (one16 x)) ∧ Below w.heap.size w w' := by
  go_enter Try.func22, Try.ntmps22
  go_wp2_with fail
  go_loopw [5, 11] (fun s i wr => ∃ k : Nat, k ≤ 8 ∧ i = .int .i64 k ∧ s = .int .i64 (it step16 k (x * 256) : Nat) ∧ Below w.heap.size w wr ∧ wr.cell? ⟨w.heap.size, 0, none⟩ = some (.int .i64 16) ∧ wr.cell? ⟨w.heap.size, 1, none⟩ = some (.int .i64 32773) ∧ w.heap.size < wr.heap.size) (fun _ i _ => 8 - (intOf i).toNat)
  case atStart => exact ⟨0, by omega, rfl, by simp [it], by repeat (first | exact Below.refl _ _ | assumption | refine below_drewN ?_ _ | refine Below.drew ?_ | refine Below.alloc ?_ (Nat.le_refl _) _ | refine bal ?_ _ | refine bnext ?_ (by assumption)), by go_simp, by go_simp, by simp⟩
  case round =>
    obtain ⟨k, hk, rfl, rfl, hb, hc0, hc1, hsz⟩ := hrel
    have hlt := it_lt step16_lt k (x * 256) (by omega)
    by_cases hkk : k < 8
    · go_wp2_with (go_at_call 32; refine (step16_any _ hlt _).mono ?_; rintro e w1 ⟨rfl, hb1⟩)
      go_roundw
      case rel =>
        exact ⟨k + 1, by omega, by go_num, rfl, bnext hb hb1, (hb1.cell (p := ⟨w.heap.size, 0, none⟩) hsz).trans hc0, (hb1.cell (p := ⟨w.heap.size, 1, none⟩) hsz).trans hc1, Nat.lt_of_lt_of_le hsz hb1.size⟩
      case measure => simp [intOf] <;> omega
    · obtain rfl : k = 8 := by omega
      go_wp2_with fail
      go_ret
      exact ⟨rfl, hb⟩

def nxt8 (s x : Nat) : Nat := ((s * 256) &&& 255) ^^^ one8 (s ^^^ x)
def crc8 (s : Nat) (l : List UInt8) : Nat := l.foldl (fun s x => nxt8 s x.toNat) s
theorem crc8_snoc (s : Nat) (l : List UInt8) (x : UInt8) : crc8 s (l ++ [x]) = nxt8 (crc8 s l) x.toNat := by simp [crc8]
theorem crc8_append (s : Nat) (l m : List UInt8) : crc8 s (l ++ m) = crc8 (crc8 s l) m := by simp [crc8]
theorem nxt8_lt (s x : Nat) (hs : s < 256) (hx : x < 256) : nxt8 s x < 256 := by
  have h : s ^^^ x < 256 := Nat.xor_lt_two_pow (n := 8) (by omega) (by omega)
  exact Nat.xor_lt_two_pow (n := 8) (Nat.and_lt_two_pow _ (by omega)) (one8_lt _ h)
theorem crc8_lt (s : Nat) (hs : s < 256) (l : List UInt8) : crc8 s l < 256 := by
  induction l generalizing s with
  | nil => exact hs
  | cons x l ih => exact ih _ (nxt8_lt _ _ hs (by have := x.toNat_lt; omega))

set_option maxHeartbeats 800000 in
theorem of8_any (ls : List (List UInt8)) (A : Option Addr) (c : Nat) (w : World) (hv : BSS w (.slice A ls.length c) ls) (hlen : ls.length < 4611686018427387904) (hlens : ∀ l ∈ ls, l.length < 4611686018427387904) :
    Calls Try.prog 21 #[.agg #[.int .i64 8, .int .i64 7], .func (.func 22) #[.agg #[.int .i64 8, .int .i64 7]] #[], .slice A ls.length c] w fun e w' =>
      e = .returned (.int .i64 (crc8 0 ls.flatten)) ∧ Below w.heap.size w w' := by
  obtain ⟨A', c', vs, he, hc, hr, hl, hx⟩ := hv
  obtain ⟨rfl, -, rfl⟩ : A = A' ∧ True ∧ c = c' := by injection he with h1 h2 h3; exact ⟨h1, trivial, h3⟩
  have Hl := Lib.hid hl; clear hl he
  have Hx := Lib.hid hx; clear hx
  have Hr := Lib.hid hr; clear hr
  have Hls := Lib.hid hlens; clear hlens
  go_enter Try.func21, Try.ntmps21
  go_wp2_with fail
  go_quiet (fail)
  go_wp2_with fail
  go_loopw [7, 19] (fun s i wr => ∃ j : Nat, j ≤ ls.length ∧ i = .int .i64 j ∧ s = .int .i64 (crc8 0 (ls.take j).flatten) ∧ Below w.heap.size w wr ∧ wr.cell? ⟨w.heap.size, 0, none⟩ = some (.int .i64 8) ∧ wr.cell? ⟨w.heap.size, 1, none⟩ = some (.int .i64 7) ∧ w.heap.size < wr.heap.size) (fun _ i _ => ls.length - (intOf i).toNat)
  case atStart => exact ⟨0, by omega, rfl, by simp [crc8], by repeat (first | exact Below.refl _ _ | assumption | refine below_drewN ?_ _ | refine Below.drew ?_ | refine Below.alloc ?_ (Nat.le_refl _) _ | refine bal ?_ _ | refine bnext ?_ (by assumption)), by go_simp, by go_simp, by simp⟩
  case round =>
    obtain ⟨j, hj, rfl, rfl, hb, hc0, hc1, hsz⟩ := hrel
    by_cases hjj : j < ls.length
    · have hjv : j < vs.length := by have := Hl.out; omega
      obtain ⟨b, o, rfl, hcell⟩ := (Hr.out.below hb).at_ hjv
      obtain ⟨A1, c1, e1, hc1', hr1⟩ := (Hx.out j vs[j] ls[j] (List.getElem?_eq_getElem hjv) (List.getElem?_eq_getElem hjj)).below hb
      rw [e1] at hcell
      have hl1 := Hls.out _ (List.getElem_mem hjj)
      have Ht : Hid (crc8 0 (ls.take (j + 1)).flatten = crc8 (crc8 0 (ls.take j).flatten) ls[j]) := by
        show _ = _
        rw [List.take_succ_eq_append_getElem hjj, List.flatten_append]
        simp only [List.flatten_cons, List.flatten_nil, List.append_nil]
        exact crc8_append _ _ _
      have hlt0 := crc8_lt 0 (by omega) (ls.take j).flatten
      generalize hq : crc8 0 (ls.take j).flatten = q at *
      clear hq e1
      generalize hlb : ls[j] = lb at *
      clear hlb
      have Hr1 := Lib.hid hr1; clear hr1
      obtain ⟨wo, rfl⟩ : ∃ wo : World, wo = wr := ⟨_, rfl⟩
      go_wp2_with fail
      go_loopw [7, 25] (fun s i wr => ∃ k : Nat, k ≤ lb.length ∧ i = .int .i64 k ∧ s = .int .i64 (crc8 q (lb.take k)) ∧ Below wo.heap.size wo wr ∧ wr.cell? ⟨w.heap.size, 0, none⟩ = some (.int .i64 8) ∧ wr.cell? ⟨w.heap.size, 1, none⟩ = some (.int .i64 7)) (fun _ i _ => lb.length - (intOf i).toNat)
      case atStart => exact ⟨0, by omega, rfl, by simp [crc8], by repeat (first | exact Below.refl _ _ | assumption | refine below_drewN ?_ _ | refine Below.drew ?_ | refine Below.alloc ?_ (Nat.le_refl _) _ | refine bal ?_ _ | refine bnext ?_ (by assumption)), hc0, hc1⟩
      case round =>
        obtain ⟨k, hk, rfl, rfl, hb2, hd0, hd1⟩ := hrel
        by_cases hkk : k < lb.length
        · obtain ⟨b2, o2, rfl, hcell2⟩ := (Hr1.out.below hb2).at_ (j := k) (by rw [bv_length]; exact hkk)
          have e2 := bv_get lb k hkk
          rw [List.getElem?_eq_getElem (by rw [bv_length]; exact hkk)] at e2
          rw [Option.some.inj e2] at hcell2
          clear e2
          have Ht2 : Hid (crc8 q (lb.take (k + 1)) = nxt8 (crc8 q (lb.take k)) lb[k].toNat) := by
            show _ = _
            rw [List.take_succ_eq_append_getElem hkk]; exact crc8_snoc _ _ _
          have hlt2 := crc8_lt q hlt0 (lb.take k)
          have hx0 := lb[k].toNat_lt
          generalize hq2 : crc8 q (lb.take k) = s at *
          clear hq2
          generalize hx2 : lb[k].toNat = x at *
          clear hx2
          have hin : s ^^^ x < 256 := Nat.xor_lt_two_pow (n := 8) (by omega) (by omega)
          have E1 : bits .xor .i64 ((s : Int)) (x : Int) = ((s ^^^ x : Nat) : Int) := i64_xor_nat _ _ (Nat.lt_of_le_of_lt (m := s) (Nat.le_refl _) (by omega)) (by omega)
          have E2 := i64_and_nat (s * 256) 255 (by omega) (by omega)
          simp only [Int.natCast_mul, Int.cast_ofNat_Int] at E1 E2
          have HE1 := Lib.hid E1; clear E1
          have HE2 := Lib.hid E2; clear E2
          go_wp2_with fail
          rw [HE1.out]
          refine (one8_any _ hin _).mono ?_
          rintro e w1 ⟨rfl, hb3⟩
          go_wp2_with fail
          go_roundw
          case rel =>
            refine ⟨k + 1, by omega, by go_num, ?_, bnext hb2 hb3, (hb3.cell (p := ⟨w.heap.size, 0, none⟩) (Nat.lt_of_lt_of_le hsz hb2.size)).trans hd0, (hb3.cell (p := ⟨w.heap.size, 1, none⟩) (Nat.lt_of_lt_of_le hsz hb2.size)).trans hd1⟩
            rw [Ht2.out]
            show Value.int .i64 _ = Value.int .i64 _
            rw [HE2.out, i64_xor_nat _ _ (Nat.lt_of_le_of_lt (Nat.and_le_right) (by omega)) (Nat.lt_trans (one8_lt _ hin) (by omega))]
            rfl
          case measure => simp [intOf] <;> omega
        · obtain rfl : k = lb.length := by omega
          go_wp2_with fail
          go_roundw
          case rel =>
            refine ⟨j + 1, by omega, by go_num, ?_, bnext hb hb2, hd0, hd1, Nat.lt_of_lt_of_le hsz hb2.size⟩
            rw [Ht.out, List.take_of_length_le (Nat.le_refl _)]
          case measure => simp [intOf] <;> omega
    · obtain rfl : j = ls.length := by omega
      go_wp2_with fail
      go_ret
      refine ⟨ret_int ?_, hb⟩
      rw [List.take_of_length_le (Nat.le_refl _)]

def nxt16 (s x : Nat) : Nat := ((s * 256) &&& 65535) ^^^ one16 ((s / 256) ^^^ x)
def crc16 (s : Nat) (l : List UInt8) : Nat := l.foldl (fun s x => nxt16 s x.toNat) s
theorem crc16_snoc (s : Nat) (l : List UInt8) (x : UInt8) : crc16 s (l ++ [x]) = nxt16 (crc16 s l) x.toNat := by simp [crc16]
theorem crc16_append (s : Nat) (l m : List UInt8) : crc16 s (l ++ m) = crc16 (crc16 s l) m := by simp [crc16]
theorem nxt16_lt (s x : Nat) (hs : s < 65536) (hx : x < 256) : nxt16 s x < 65536 := by
  have h : (s / 256) ^^^ x < 256 := Nat.xor_lt_two_pow (n := 8) (by omega) (by omega)
  exact Nat.xor_lt_two_pow (n := 16) (Nat.and_lt_two_pow _ (by omega)) (one16_lt _ h)
theorem crc16_lt (s : Nat) (hs : s < 65536) (l : List UInt8) : crc16 s l < 65536 := by
  induction l generalizing s with
  | nil => exact hs
  | cons x l ih => exact ih _ (nxt16_lt _ _ hs (by have := x.toNat_lt; omega))

set_option maxHeartbeats 800000 in
theorem of16_any (ls : List (List UInt8)) (A : Option Addr) (c : Nat) (w : World) (hv : BSS w (.slice A ls.length c) ls) (hlen : ls.length < 4611686018427387904) (hlens : ∀ l ∈ ls, l.length < 4611686018427387904) :
    Calls Try.prog 21 #[.agg #[.int .i64 16, .int .i64 32773], .func (.func 22) #[.agg #[.int .i64 16, .int .i64 32773]] #[], .slice A ls.length c] w fun e w' =>
      e = .returned (.int .i64 (crc16 0 ls.flatten)) ∧ Below w.heap.size w w' := by
  obtain ⟨A', c', vs, he, hc, hr, hl, hx⟩ := hv
  obtain ⟨rfl, -, rfl⟩ : A = A' ∧ True ∧ c = c' := by injection he with h1 h2 h3; exact ⟨h1, trivial, h3⟩
  have Hl := Lib.hid hl; clear hl he
  have Hx := Lib.hid hx; clear hx
  have Hr := Lib.hid hr; clear hr
  have Hls := Lib.hid hlens; clear hlens
  go_enter Try.func21, Try.ntmps21
  go_wp2_with fail
  go_quiet (fail)
  go_wp2_with fail
  go_loopw [7, 19] (fun s i wr => ∃ j : Nat, j ≤ ls.length ∧ i = .int .i64 j ∧ s = .int .i64 (crc16 0 (ls.take j).flatten) ∧ Below w.heap.size w wr ∧ wr.cell? ⟨w.heap.size, 0, none⟩ = some (.int .i64 16) ∧ wr.cell? ⟨w.heap.size, 1, none⟩ = some (.int .i64 32773) ∧ w.heap.size < wr.heap.size) (fun _ i _ => ls.length - (intOf i).toNat)
  case atStart => exact ⟨0, by omega, rfl, by simp [crc16], by repeat (first | exact Below.refl _ _ | assumption | refine below_drewN ?_ _ | refine Below.drew ?_ | refine Below.alloc ?_ (Nat.le_refl _) _ | refine bal ?_ _ | refine bnext ?_ (by assumption)), by go_simp, by go_simp, by simp⟩
  case round =>
    obtain ⟨j, hj, rfl, rfl, hb, hc0, hc1, hsz⟩ := hrel
    by_cases hjj : j < ls.length
    · have hjv : j < vs.length := by have := Hl.out; omega
      obtain ⟨b, o, rfl, hcell⟩ := (Hr.out.below hb).at_ hjv
      obtain ⟨A1, c1, e1, hc1', hr1⟩ := (Hx.out j vs[j] ls[j] (List.getElem?_eq_getElem hjv) (List.getElem?_eq_getElem hjj)).below hb
      rw [e1] at hcell
      have hl1 := Hls.out _ (List.getElem_mem hjj)
      have Ht : Hid (crc16 0 (ls.take (j + 1)).flatten = crc16 (crc16 0 (ls.take j).flatten) ls[j]) := by
        show _ = _
        rw [List.take_succ_eq_append_getElem hjj, List.flatten_append]
        simp only [List.flatten_cons, List.flatten_nil, List.append_nil]
        exact crc16_append _ _ _
      have hlt0 := crc16_lt 0 (by omega) (ls.take j).flatten
      generalize hq : crc16 0 (ls.take j).flatten = q at *
      clear hq e1
      generalize hlb : ls[j] = lb at *
      clear hlb
      have Hr1 := Lib.hid hr1; clear hr1
      obtain ⟨wo, rfl⟩ : ∃ wo : World, wo = wr := ⟨_, rfl⟩
      go_wp2_with fail
      go_loopw [7, 25] (fun s i wr => ∃ k : Nat, k ≤ lb.length ∧ i = .int .i64 k ∧ s = .int .i64 (crc16 q (lb.take k)) ∧ Below wo.heap.size wo wr ∧ wr.cell? ⟨w.heap.size, 0, none⟩ = some (.int .i64 16) ∧ wr.cell? ⟨w.heap.size, 1, none⟩ = some (.int .i64 32773)) (fun _ i _ => lb.length - (intOf i).toNat)
      case atStart => exact ⟨0, by omega, rfl, by simp [crc16], by repeat (first | exact Below.refl _ _ | assumption | refine below_drewN ?_ _ | refine Below.drew ?_ | refine Below.alloc ?_ (Nat.le_refl _) _ | refine bal ?_ _ | refine bnext ?_ (by assumption)), hc0, hc1⟩
      case round =>
        obtain ⟨k, hk, rfl, rfl, hb2, hd0, hd1⟩ := hrel
        by_cases hkk : k < lb.length
        · obtain ⟨b2, o2, rfl, hcell2⟩ := (Hr1.out.below hb2).at_ (j := k) (by rw [bv_length]; exact hkk)
          have e2 := bv_get lb k hkk
          rw [List.getElem?_eq_getElem (by rw [bv_length]; exact hkk)] at e2
          rw [Option.some.inj e2] at hcell2
          clear e2
          have Ht2 : Hid (crc16 q (lb.take (k + 1)) = nxt16 (crc16 q (lb.take k)) lb[k].toNat) := by
            show _ = _
            rw [List.take_succ_eq_append_getElem hkk]; exact crc16_snoc _ _ _
          have hlt2 := crc16_lt q hlt0 (lb.take k)
          have hx0 := lb[k].toNat_lt
          generalize hq2 : crc16 q (lb.take k) = s at *
          clear hq2
          generalize hx2 : lb[k].toNat = x at *
          clear hx2
          have hin : (s / 256) ^^^ x < 256 := Nat.xor_lt_two_pow (n := 8) (by omega) (by omega)
          have E1 : bits .xor .i64 ((s : Int) / 256) (x : Int) = (((s / 256) ^^^ x : Nat) : Int) := i64_xor_nat _ _ (Nat.lt_of_le_of_lt (m := s) (Nat.div_le_self _ _) (by omega)) (by omega)
          have E2 := i64_and_nat (s * 256) 65535 (by omega) (by omega)
          simp only [Int.natCast_mul, Int.cast_ofNat_Int] at E1 E2
          have HE1 := Lib.hid E1; clear E1
          have HE2 := Lib.hid E2; clear E2
          go_wp2_with fail
          rw [HE1.out]
          refine (one16_any _ hin _).mono ?_
          rintro e w1 ⟨rfl, hb3⟩
          go_wp2_with fail
          go_roundw
          case rel =>
            refine ⟨k + 1, by omega, by go_num, ?_, bnext hb2 hb3, (hb3.cell (p := ⟨w.heap.size, 0, none⟩) (Nat.lt_of_lt_of_le hsz hb2.size)).trans hd0, (hb3.cell (p := ⟨w.heap.size, 1, none⟩) (Nat.lt_of_lt_of_le hsz hb2.size)).trans hd1⟩
            rw [Ht2.out]
            show Value.int .i64 _ = Value.int .i64 _
            rw [HE2.out, i64_xor_nat _ _ (Nat.lt_of_le_of_lt (Nat.and_le_right) (by omega)) (Nat.lt_trans (one16_lt _ hin) (by omega))]
            rfl
          case measure => simp [intOf] <;> omega
        · obtain rfl : k = lb.length := by omega
          go_wp2_with fail
          go_roundw
          case rel =>
            refine ⟨j + 1, by omega, by go_num, ?_, bnext hb hb2, hd0, hd1, Nat.lt_of_lt_of_le hsz hb2.size⟩
            rw [Ht.out, List.take_of_length_le (Nat.le_refl _)]
          case measure => simp [intOf] <;> omega
    · obtain rfl : j = ls.length := by omega
      go_wp2_with fail
      go_ret
      refine ⟨ret_int ?_, hb⟩
      rw [List.take_of_length_le (Nat.le_refl _)]

end Go.Proofs.Ytjfjkmbokiinbaa

namespace Go.Proofs.Ytjfjkmbokiinbaa
open Go.RowKit

set_option maxHeartbeats 400000 in
theorem eight_any (w : World) :
    Calls Try.prog 20 #[] w fun e w' => e = .returned (.agg #[.int .i64 8, .int .i64 7]) ∧ Below w.heap.size w w' := by
  go_enter Try.func20, Try.ntmps20
  go_wp2_with fail
  exact bodyPost_ret (v := .agg #[.int .i64 8, .int .i64 7]) (by simp [results, Try.results20, go_sem]) rfl ⟨rfl, by repeat (first | exact Below.refl _ _ | assumption | refine below_drewN ?_ _ | refine Below.drew ?_ | refine Below.alloc ?_ (Nat.le_refl _) _ | refine bal ?_ _ | refine bnext ?_ (by assumption))⟩

set_option maxHeartbeats 400000 in
theorem Sum8_any (ls : List (List UInt8)) (A : Option Addr) (c : Nat) (w : World) (hv : BSS w (.slice A ls.length c) ls) (hlen : ls.length < 4611686018427387904) (hlens : ∀ l ∈ ls, l.length < 4611686018427387904) :
    Calls Try.prog 10 #[.slice A ls.length c] w fun e w' =>
      e = .returned (.int .i64 (crc8 0 ls.flatten)) ∧ Below w.heap.size w w' := by
  have Hv := Lib.hid hv; clear hv
  have Hls := Lib.hid hlens; clear hlens
  go_enter Try.func10, Try.ntmps10
  go_wp2_with fail
  refine (eight_any _).mono ?_
  rintro e w1 ⟨rfl, hb1⟩
  go_wp2_with fail
  refine (eight_any _).mono ?_
  rintro e w2 ⟨rfl, hb2⟩
  go_wp2_with fail
  refine (of8_any ls A c _ ((Hv.out.below hb1).below hb2) hlen Hls.out).mono ?_
  rintro e w3 ⟨rfl, hb3⟩
  go_wp2_with fail
  go_ret
  exact ⟨rfl, bnext (bnext hb1 hb2) hb3⟩

set_option maxHeartbeats 400000 in
theorem shift8_ok (s n : Nat) (hs : s < 256) (hn : n ≤ 1048576) (w : World) :
    Calls Try.prog 26 #[.agg #[.int .i64 8, .int .i64 7], .int .i64 s, .int .i64 n] w fun e w' =>
      e = .returned (.tuple #[.int .i64 (it step8 n s : Nat), .int .i64 0]) ∧ Below w.heap.size w w' := by
  go_enter Try.func26, Try.ntmps26
  go_wp2_with fail
  go_loopw [1, 26] (fun v i wr => ∃ k : Nat, k ≤ n ∧ i = .int .i64 k ∧ v = .int .i64 (it step8 k s : Nat) ∧ Below w.heap.size w wr ∧ wr.cell? ⟨w.heap.size, 0, none⟩ = some (.int .i64 8) ∧ wr.cell? ⟨w.heap.size, 1, none⟩ = some (.int .i64 7) ∧ w.heap.size < wr.heap.size) (fun _ i _ => n - (intOf i).toNat)
  case atStart => exact ⟨0, by omega, rfl, rfl, by repeat (first | exact Below.refl _ _ | assumption | refine below_drewN ?_ _ | refine Below.drew ?_ | refine Below.alloc ?_ (Nat.le_refl _) _ | refine bal ?_ _ | refine bnext ?_ (by assumption)), by go_simp, by go_simp, by simp⟩
  case round =>
    obtain ⟨k, hk, rfl, rfl, hb, hc0, hc1, hsz⟩ := hrel
    have hlt := it_lt step8_lt k s hs
    by_cases hkk : k < n
    · go_wp2_with (go_at_call 32; refine (step8_any _ hlt _).mono ?_; rintro e w1 ⟨rfl, hb1⟩)
      go_roundw
      case rel =>
        exact ⟨k + 1, by omega, by go_num, rfl, bnext hb hb1, (hb1.cell (p := ⟨w.heap.size, 0, none⟩) hsz).trans hc0, (hb1.cell (p := ⟨w.heap.size, 1, none⟩) hsz).trans hc1, Nat.lt_of_lt_of_le hsz hb1.size⟩
      case measure => simp [intOf] <;> omega
    · obtain rfl : k = n := by omega
      go_wp2_with fail
      go_ret2
      exact ⟨rfl, hb⟩

theorem shift8_no (s n : Int) (h : s < 0 ∨ 256 ≤ s ∨ n < 0 ∨ 1048576 < n) (hs : s < 9223372036854775808) (w : World) :
    Calls Try.prog 26 #[.agg #[.int .i64 8, .int .i64 7], .int .i64 s, .int .i64 n] w fun e w' =>
      e = .returned (.tuple #[.int .i64 0, .int .i64 10]) ∧ Below w.heap.size w w' := by
  by_cases h1 : s < 0
  · go_enter Try.func26, Try.ntmps26
    go_wp2_with fail
    go_ret2
    exact ⟨rfl, by repeat (first | exact Below.refl _ _ | assumption | refine below_drewN ?_ _ | refine Below.drew ?_ | refine Below.alloc ?_ (Nat.le_refl _) _ | refine bal ?_ _ | refine bnext ?_ (by assumption))⟩
  by_cases h2 : 256 ≤ s
  · have h3 : (s / 256 != 0) = true := by rw [bne_iff_ne]; omega
    go_enter Try.func26, Try.ntmps26
    go_wp2_with fail
    go_ret2
    exact ⟨rfl, by repeat (first | exact Below.refl _ _ | assumption | refine below_drewN ?_ _ | refine Below.drew ?_ | refine Below.alloc ?_ (Nat.le_refl _) _ | refine bal ?_ _ | refine bnext ?_ (by assumption))⟩
  have h3 : (s / 256 != 0) = false := by rw [bne_eq_false_iff_eq]; omega
  by_cases h4 : n < 0
  · go_enter Try.func26, Try.ntmps26
    go_wp2_with fail
    go_ret2
    exact ⟨rfl, by repeat (first | exact Below.refl _ _ | assumption | refine below_drewN ?_ _ | refine Below.drew ?_ | refine Below.alloc ?_ (Nat.le_refl _) _ | refine bal ?_ _ | refine bnext ?_ (by assumption))⟩
  · have h5 : 1048576 < n := by omega
    go_enter Try.func26, Try.ntmps26
    go_wp2_with fail
    go_ret2
    exact ⟨rfl, by repeat (first | exact Below.refl _ _ | assumption | refine below_drewN ?_ _ | refine Below.drew ?_ | refine Below.alloc ?_ (Nat.le_refl _) _ | refine bal ?_ _ | refine bnext ?_ (by assumption))⟩

theorem Shift8_ok (s n : Nat) (hs : s < 256) (hn : n ≤ 1048576) (w : World) :
    Calls Try.prog 15 #[.int .i64 s, .int .i64 n] w fun e w' =>
      e = .returned (.tuple #[.int .i64 (it step8 n s : Nat), .int .i64 0]) ∧ Below w.heap.size w w' := by
  go_enter Try.func15, Try.ntmps15
  go_wp2_with fail
  refine (eight_any _).mono ?_
  rintro e w1 ⟨rfl, hb1⟩
  go_wp2_with fail
  refine (shift8_ok s n hs hn _).mono ?_
  rintro e w2 ⟨rfl, hb2⟩
  go_wp2_with fail
  go_ret2
  exact ⟨rfl, bnext hb1 hb2⟩
theorem Shift8_no (s n : Int) (h : s < 0 ∨ 256 ≤ s ∨ n < 0 ∨ 1048576 < n) (hs : s < 9223372036854775808) (w : World) :
    Calls Try.prog 15 #[.int .i64 s, .int .i64 n] w fun e w' =>
      e = .returned (.tuple #[.int .i64 0, .int .i64 10]) ∧ Below w.heap.size w w' := by
  go_enter Try.func15, Try.ntmps15
  go_wp2_with fail
  refine (eight_any _).mono ?_
  rintro e w1 ⟨rfl, hb1⟩
  go_wp2_with fail
  refine (shift8_no s n h hs _).mono ?_
  rintro e w2 ⟨rfl, hb2⟩
  go_wp2_with fail
  go_ret2
  exact ⟨rfl, bnext hb1 hb2⟩

set_option maxHeartbeats 400000 in
theorem sixteen_any (w : World) :
    Calls Try.prog 25 #[] w fun e w' => e = .returned (.agg #[.int .i64 16, .int .i64 32773]) ∧ Below w.heap.size w w' := by
  go_enter Try.func25, Try.ntmps25
  go_wp2_with fail
  exact bodyPost_ret (v := .agg #[.int .i64 16, .int .i64 32773]) (by simp [results, Try.results25, go_sem]) rfl ⟨rfl, by repeat (first | exact Below.refl _ _ | assumption | refine below_drewN ?_ _ | refine Below.drew ?_ | refine Below.alloc ?_ (Nat.le_refl _) _ | refine bal ?_ _ | refine bnext ?_ (by assumption))⟩

set_option maxHeartbeats 400000 in
theorem Sum16_any (ls : List (List UInt8)) (A : Option Addr) (c : Nat) (w : World) (hv : BSS w (.slice A ls.length c) ls) (hlen : ls.length < 4611686018427387904) (hlens : ∀ l ∈ ls, l.length < 4611686018427387904) :
    Calls Try.prog 12 #[.slice A ls.length c] w fun e w' =>
      e = .returned (.int .i64 (crc16 0 ls.flatten)) ∧ Below w.heap.size w w' := by
  have Hv := Lib.hid hv; clear hv
  have Hls := Lib.hid hlens; clear hlens
  go_enter Try.func12, Try.ntmps12
  go_wp2_with fail
  refine (sixteen_any _).mono ?_
  rintro e w1 ⟨rfl, hb1⟩
  go_wp2_with fail
  refine (sixteen_any _).mono ?_
  rintro e w2 ⟨rfl, hb2⟩
  go_wp2_with fail
  refine (of16_any ls A c _ ((Hv.out.below hb1).below hb2) hlen Hls.out).mono ?_
  rintro e w3 ⟨rfl, hb3⟩
  go_wp2_with fail
  go_ret
  exact ⟨rfl, bnext (bnext hb1 hb2) hb3⟩

set_option maxHeartbeats 400000 in
theorem shift16_ok (s n : Nat) (hs : s < 65536) (hn : n ≤ 1048576) (w : World) :
    Calls Try.prog 26 #[.agg #[.int .i64 16, .int .i64 32773], .int .i64 s, .int .i64 n] w fun e w' =>
      e = .returned (.tuple #[.int .i64 (it step16 n s : Nat), .int .i64 0]) ∧ Below w.heap.size w w' := by
  go_enter Try.func26, Try.ntmps26
  go_wp2_with fail
  go_loopw [1, 26] (fun v i wr => ∃ k : Nat, k ≤ n ∧ i = .int .i64 k ∧ v = .int .i64 (it step16 k s : Nat) ∧ Below w.heap.size w wr ∧ wr.cell? ⟨w.heap.size, 0, none⟩ = some (.int .i64 16) ∧ wr.cell? ⟨w.heap.size, 1, none⟩ = some (.int .i64 32773) ∧ w.heap.size < wr.heap.size) (fun _ i _ => n - (intOf i).toNat)
  case atStart => exact ⟨0, by omega, rfl, rfl, by repeat (first | exact Below.refl _ _ | assumption | refine below_drewN ?_ _ | refine Below.drew ?_ | refine Below.alloc ?_ (Nat.le_refl _) _ | refine bal ?_ _ | refine bnext ?_ (by assumption)), by go_simp, by go_simp, by simp⟩
  case round =>
    obtain ⟨k, hk, rfl, rfl, hb, hc0, hc1, hsz⟩ := hrel
    have hlt := it_lt step16_lt k s hs
    by_cases hkk : k < n
    · go_wp2_with (go_at_call 32; refine (step16_any _ hlt _).mono ?_; rintro e w1 ⟨rfl, hb1⟩)
      go_roundw
      case rel =>
        exact ⟨k + 1, by omega, by go_num, rfl, bnext hb hb1, (hb1.cell (p := ⟨w.heap.size, 0, none⟩) hsz).trans hc0, (hb1.cell (p := ⟨w.heap.size, 1, none⟩) hsz).trans hc1, Nat.lt_of_lt_of_le hsz hb1.size⟩
      case measure => simp [intOf] <;> omega
    · obtain rfl : k = n := by omega
      go_wp2_with fail
      go_ret2
      exact ⟨rfl, hb⟩

theorem shift16_no (s n : Int) (h : s < 0 ∨ 65536 ≤ s ∨ n < 0 ∨ 1048576 < n) (hs : s < 9223372036854775808) (w : World) :
    Calls Try.prog 26 #[.agg #[.int .i64 16, .int .i64 32773], .int .i64 s, .int .i64 n] w fun e w' =>
      e = .returned (.tuple #[.int .i64 0, .int .i64 10]) ∧ Below w.heap.size w w' := by
  by_cases h1 : s < 0
  · go_enter Try.func26, Try.ntmps26
    go_wp2_with fail
    go_ret2
    exact ⟨rfl, by repeat (first | exact Below.refl _ _ | assumption | refine below_drewN ?_ _ | refine Below.drew ?_ | refine Below.alloc ?_ (Nat.le_refl _) _ | refine bal ?_ _ | refine bnext ?_ (by assumption))⟩
  by_cases h2 : 65536 ≤ s
  · have h3 : (s / 65536 != 0) = true := by rw [bne_iff_ne]; omega
    go_enter Try.func26, Try.ntmps26
    go_wp2_with fail
    go_ret2
    exact ⟨rfl, by repeat (first | exact Below.refl _ _ | assumption | refine below_drewN ?_ _ | refine Below.drew ?_ | refine Below.alloc ?_ (Nat.le_refl _) _ | refine bal ?_ _ | refine bnext ?_ (by assumption))⟩
  have h3 : (s / 65536 != 0) = false := by rw [bne_eq_false_iff_eq]; omega
  by_cases h4 : n < 0
  · go_enter Try.func26, Try.ntmps26
    go_wp2_with fail
    go_ret2
    exact ⟨rfl, by repeat (first | exact Below.refl _ _ | assumption | refine below_drewN ?_ _ | refine Below.drew ?_ | refine Below.alloc ?_ (Nat.le_refl _) _ | refine bal ?_ _ | refine bnext ?_ (by assumption))⟩
  · have h5 : 1048576 < n := by omega
    go_enter Try.func26, Try.ntmps26
    go_wp2_with fail
    go_ret2
    exact ⟨rfl, by repeat (first | exact Below.refl _ _ | assumption | refine below_drewN ?_ _ | refine Below.drew ?_ | refine Below.alloc ?_ (Nat.le_refl _) _ | refine bal ?_ _ | refine bnext ?_ (by assumption))⟩

theorem Shift16_ok (s n : Nat) (hs : s < 65536) (hn : n ≤ 1048576) (w : World) :
    Calls Try.prog 14 #[.int .i64 s, .int .i64 n] w fun e w' =>
      e = .returned (.tuple #[.int .i64 (it step16 n s : Nat), .int .i64 0]) ∧ Below w.heap.size w w' := by
  go_enter Try.func14, Try.ntmps14
  go_wp2_with fail
  refine (sixteen_any _).mono ?_
  rintro e w1 ⟨rfl, hb1⟩
  go_wp2_with fail
  refine (shift16_ok s n hs hn _).mono ?_
  rintro e w2 ⟨rfl, hb2⟩
  go_wp2_with fail
  go_ret2
  exact ⟨rfl, bnext hb1 hb2⟩
theorem Shift16_no (s n : Int) (h : s < 0 ∨ 65536 ≤ s ∨ n < 0 ∨ 1048576 < n) (hs : s < 9223372036854775808) (w : World) :
    Calls Try.prog 14 #[.int .i64 s, .int .i64 n] w fun e w' =>
      e = .returned (.tuple #[.int .i64 0, .int .i64 10]) ∧ Below w.heap.size w w' := by
  go_enter Try.func14, Try.ntmps14
  go_wp2_with fail
  refine (sixteen_any _).mono ?_
  rintro e w1 ⟨rfl, hb1⟩
  go_wp2_with fail
  refine (shift16_no s n h hs _).mono ?_
  rintro e w2 ⟨rfl, hb2⟩
  go_wp2_with fail
  go_ret2
  exact ⟨rfl, bnext hb1 hb2⟩

end Go.Proofs.Ytjfjkmbokiinbaa

namespace Go.Proofs.Ytjfjkmbokiinbaa
open Go.RowKit

/-- What may turn in a step: the blocks of S alone. -/
structure Fr (S : Nat → Prop) (w w' : World) : Prop where
  os : w'.os = w.os
  tape : w'.tape = w.tape
  output : w'.output = w.output
  size : w.heap.size ≤ w'.heap.size
  block : ∀ k, k < w.heap.size → ¬ S k → w'.heap[k]? = w.heap[k]?
theorem Fr.refl (S : Nat → Prop) (w : World) : Fr S w w := ⟨rfl, rfl, rfl, Nat.le_refl _, fun _ _ _ => rfl⟩
theorem Fr.trans {S : Nat → Prop} {a b c : World} (h : Fr S a b) (k : Fr S b c) : Fr S a c :=
  ⟨k.os.trans h.os, k.tape.trans h.tape, k.output.trans h.output, Nat.le_trans h.size k.size, fun i hi hs => (k.block i (Nat.lt_of_lt_of_le hi h.size) hs).trans (h.block i hi hs)⟩
theorem Fr.of {S : Nat → Prop} {a b : World} (h : Below a.heap.size a b) : Fr S a b := ⟨h.os, h.tape, h.output, h.size, fun k hk _ => h.block k hk⟩
theorem Fr.next {S : Nat → Prop} {a b c : World} (h : Fr S a b) (k : Below b.heap.size b c) : Fr S a c := h.trans (Fr.of k)
theorem Fr.wide {S T : Nat → Prop} {a b : World} (h : Fr S a b) (hs : ∀ k, S k → T k) : Fr T a b := ⟨h.os, h.tape, h.output, h.size, fun k hk ht => h.block k hk fun hS => ht (hs k hS)⟩
theorem Fr.setCell {S : Nat → Prop} {a b : World} (h : Fr S a b) {p : Addr} (hp : S p.block) (u : Value) : Fr S a (b.setCell p u) :=
  h.trans ⟨rfl, rfl, rfl, by simp [World.setCell], fun k _ hs => Below.heap_setCell _ _ _ _ (fun e => hs (e ▸ hp))⟩
theorem Fr.put {R : Nat} {a b : World} (h : Fr (· = R) a b) (i : Nat) (u : Value) : Fr (· = R) a (b.setCell ⟨R, i, none⟩ u) := h.setCell (p := ⟨R, i, none⟩) rfl u
theorem Fr.drew {S : Nat → Prop} {a b : World} (h : Fr S a b) : Fr S a b.drew := ⟨h.os, h.tape, h.output, h.size, h.block⟩
/-- Below a number that none of S is under, all is as it was. -/
theorem Fr.below {S : Nat → Prop} {w a b : World} (h : Fr S a b) (hw : Below w.heap.size w a) (hs : ∀ k, S k → w.heap.size ≤ k) : Below w.heap.size w b :=
  hw.trans ⟨h.os, h.tape, h.output, h.size, fun k hk => h.block k (Nat.lt_of_lt_of_le hk hw.size) fun hS => by have := hs k hS; omega⟩
theorem Fr.row {S : Nat → Prop} {a b : World} (h : Fr S a b) {k : Nat} {o : Obj} (hk : a.heap[k]? = some o) (hs : ¬ S k) : b.heap[k]? = some o := by
  have hl : k < a.heap.size := by
    rcases Nat.lt_or_ge k a.heap.size with h1 | h1
    · exact h1
    · rw [Array.getElem?_eq_none h1] at hk; cases hk
  exact (h.block k hl hs).trans hk
theorem Fr.cell {S : Nat → Prop} {a b : World} (h : Fr S a b) {p : Addr} {u : Value} (hk : a.cell? p = some u) (hs : ¬ S p.block) : b.cell? p = some u := by
  obtain ⟨q, o, sp⟩ := p
  have hsp : sp = none := by simpa using World.cell?_spot hk
  subst hsp
  exact (World.cell?_of_block (w := a) (h.block q (cell_lt hk) hs)).trans hk
theorem Rd.fr {S : Nat → Prop} {a b : World} {A : Option Addr} {xs : List Value} (h : Rd a A xs) (f : Fr S a b) (hs : ∀ k o, A = some ⟨k, o, none⟩ → 0 < xs.length → ¬ S k) : Rd b A xs := by
  intro j u hu
  obtain ⟨k, o, rfl, hc⟩ := h j u hu
  have hj : 0 < xs.length := Nat.lt_of_le_of_lt (Nat.zero_le _) (List.getElem?_eq_some_iff.1 hu).1
  exact ⟨k, o, rfl, f.cell hc (hs k o rfl hj)⟩
end Go.Proofs.Ytjfjkmbokiinbaa

namespace Go
open Go.RowKit
section
variable {P : Program} {ops : Array Oper} {Q : Exit → Act → World → Prop} {md : Region.Mode} {S : World → Prop}

/-- In every world that meets S the operation leaves v in its temporary and does nothing else: a call that returns v and leaves the world alone too. -/
def YieldsS (P : Program) (ops : Array Oper) (S : World → Prop) (o : Oper) (v : Value) (a : Act) : Prop :=
  (Region.wanted o (yielded ops a.tmps) = true ∧ ∀ w, S w → ((execOp a.eval o).run P w = .ok (.value v) w ∨
    ∃ f args, (execOp a.eval o).run P w = .ok (.enter f args) w ∧ Calls P f args w (fun e w'' => e = .returned v ∧ w'' = w))) ∨
  (Region.wanted o (yielded ops a.tmps) = false ∧ v = undef)
theorem YieldsS.wpOp {i : Nat} {o : Oper} {v : Value} {a : Act} (hi : ops[i]? = some o) (hy : YieldsS P ops S o v a)
    {K : Act → World → Prop} {w : World} (hS : S w) (h : K (a.put o.dst v) w) : wpOp P ops Q i K a w := by
  unfold Go.wpOp
  simp only [hi]
  rcases hy with ⟨hw, hv⟩ | ⟨hw, rfl⟩
  · rcases hv w hS with hv | ⟨f, args, hv, hc⟩
    · simp only [hw, if_true, Oper.wp, hv, Oper.upon]; exact .inl h
    · simp only [hw, if_true, Oper.wp, hv, Oper.upon]
      exact .inl (hc.mono fun e w'' ⟨he, hw⟩ => by subst he; subst hw; exact h)
  · simp only [hw, Bool.false_eq_true, if_false]; exact h
theorem YieldsS.of_same {o : Oper} {v : Value} {a a' : Act} (hy : YieldsS P ops S o v a) (he : execOp a'.eval o = execOp a.eval o)
    (hw : Region.wanted o (yielded ops a'.tmps) = Region.wanted o (yielded ops a.tmps)) : YieldsS P ops S o v a' := by
  unfold YieldsS at *
  rw [he, hw]
  exact hy
theorem wpOp_putS {j : Nat} {oi oj : Oper} {v : Value} (hj : ops[j]? = some oj) (hap : oi.apart ops oj = true)
    (hsi : ∀ cs b, oi.op ≠ .select cs b) (hsj : ∀ cs b, oj.op ≠ .select cs b)
    (hQ : ∀ c a w, Q (.panic c) (a.put oi.dst v) w → Q (.panic c) a w) {K : Act → World → Prop} {a : Act} {w : World}
    (hy : YieldsS P ops S oi v a) (h : wpOp P ops Q j K (a.put oi.dst v) w) :
    wpOp P ops Q j (fun a' w' => YieldsS P ops S oi v a' ∧ K (a'.put oi.dst v) w') a w := by
  obtain ⟨h1, h2, h3⟩ := Oper.apart_spec hap
  have keep : ∀ (a : Act), YieldsS P ops S oi v a → ∀ u, YieldsS P ops S oi v (a.put oj.dst u) := fun a hy u =>
    hy.of_same (execOp_put oi hsi a oj.dst u h3) (wanted_put oi a oj.dst u h3)
  have keepD : ∀ d, YieldsS P ops S oi v { a with defers := d :: a.defers } := fun d => hy.of_same rfl rfl
  unfold wpOp at *
  simp only [hj] at *
  rw [wanted_put oj a oi.dst v h1] at h
  split
  · rename_i hw
    simp only [hw, if_true] at h
    rcases h with h | ⟨hasks, hlets⟩
    case inr => exact .inr ⟨by unfold Oper.asks at *; rw [execOp_put oj hsj a oi.dst v h1] at hasks; exact hasks, hlets⟩
    refine .inl ?_
    unfold Oper.wp at *
    rw [execOp_put oj hsj a oi.dst v h1] at h
    generalize (execOp a.eval oj).run P w = r at *
    cases r with
    | ok n w' =>
      cases n <;> simp only [Oper.upon] at h ⊢
      case value u => exact ⟨keep a hy u, by rw [← Act.put_comm a v u h2]; exact h⟩
      case skip => exact ⟨keep a hy _, by rw [← Act.put_comm a v undef h2]; exact h⟩
      case defer d =>
        refine ⟨keep _ (keepD d) _, ?_⟩
        rw [← Act.put_comm _ v undef h2, ← Act.put_defers]
        exact h
      case enter f args =>
        refine Calls.mono h fun e w'' he => ?_
        cases e with
        | returned u => exact ⟨keep a hy u, by rw [← Act.put_comm a v u h2]; exact he⟩
        | panicked c => exact hQ _ _ _ he
        | outgrown => exact he
      case row row args => exact Rows.mono h fun u w'' he => ⟨keep a hy u, by rw [← Act.put_comm a v u h2]; exact he⟩
    | halt x w' =>
      cases x <;> simp only [Oper.upon] at h ⊢
      case panic u => exact hQ _ _ _ h
  · rename_i hw
    simp only [hw] at h
    exact ⟨keep a hy _, by rw [← Act.put_comm a v undef h2]; exact h⟩
theorem wpAnyH_firstS {i : Nat} {oi : Oper} {v : Value} (hi : ops[i]? = some oi) (hsel : ∀ (j : Nat) (o : Oper) cs b, ops[j]? = some o → o.op ≠ .select cs b)
    (hQ : ∀ c a w, Q (.panic c) (a.put oi.dst v) w → Q (.panic c) a w) :
    ∀ (fuel : Nat) (listed : Array Bool) (a : Act) (w : World),
      (∀ j oj, ops[j]? = some oj → j ≠ i → listed.getD j true = false → (∀ e ∈ oj.after, Region.binds md e = true → e.on ≠ i) → oi.apart ops oj = true) →
      i ∈ Region.ready md ops listed → YieldsS P ops S oi v a → S w →
      wpAnyH P md ops Q S fuel (listed.setIfInBounds i true) (a.put oi.dst v) w → wpAnyH P md ops Q S (fuel + 1) listed a w := by
  intro fuel
  induction fuel with
  | zero =>
    intro listed a w _ hr hy hS H
    refine ⟨fun h => (by rw [h] at hr; cases hr), fun j hj => ?_⟩
    by_cases hji : j = i
    · subst hji; exact hy.wpOp hi hS ⟨hS, H⟩
    · have := ready_mono hj hji
      rw [H.1] at this
      cases this
  | succ fuel ih =>
    intro listed a w hfree hr hy hS H
    refine ⟨fun h => (by rw [h] at hr; cases hr), fun j hj => ?_⟩
    by_cases hji : j = i
    · subst hji; exact hy.wpOp hi hS ⟨hS, H⟩
    · have h1 := H.2 j (ready_mono hj hji)
      obtain ⟨hjun, oj, hoj, hall⟩ := mem_ready.1 hj
      have hnot : ∀ e ∈ oj.after, Region.binds md e = true → e.on ≠ i := fun e he hb heq => by
        have h1 := hall e he hb
        have h0 := (mem_ready.1 hr).1
        rw [heq] at h1
        rcases Nat.lt_or_ge i listed.size with h' | h'
        · simp [h'] at h0 h1; rw [h0] at h1; cases h1
        · simp [Array.getElem?_eq_none h'] at h1
      have h2 := wpOp_putS hoj (hfree j oj hoj hji hjun hnot) (fun cs b => hsel i oi cs b hi) (fun cs b => hsel j oj cs b hoj) hQ hy h1
      have hfree' : ∀ k ok, ops[k]? = some ok → k ≠ i → (listed.setIfInBounds j true).getD k true = false →
          (∀ e ∈ ok.after, Region.binds md e = true → e.on ≠ i) → oi.apart ops ok = true := fun k ok hk hki hun hno => by
        refine hfree k ok hk hki ?_ hno
        by_cases hjk : j = k
        · subst hjk; exact hjun
        · rw [getD_set_ne true hjk] at hun; exact hun
      refine wpOp_mono (fun a' w' h3 => ⟨h3.2.1, ih (listed.setIfInBounds j true) a' w' hfree' (ready_mono hr (Ne.symm hji)) h3.1 h3.2.1 ?_⟩) h2
      rw [Array.setIfInBounds_comm _ _ hji]
      exact h3.2.2

/-- The operations of the head, one by one, each with what it yields. -/
def wpHead (P : Program) (ops : Array Oper) (S : World → Prop) (L : Act → Prop) : List Oper → Act → Prop
  | [], a => L a
  | o :: l, a => ∃ v, YieldsS P ops S o v a ∧ wpHead P ops S L l (a.put o.dst v)
theorem wpHead_nil {L : Act → Prop} {a : Act} (h : L a) : wpHead P ops S L [] a := h
theorem wpHead_op {L : Act → Prop} {a : Act} {o : Oper} {l : List Oper} (v : Value) (hw : Region.wanted o (yielded ops a.tmps) = true) (hv : ∀ w, S w → (execOp a.eval o).run P w = .ok (.value v) w)
    (h : wpHead P ops S L l (a.put o.dst v)) : wpHead P ops S L (o :: l) a := ⟨v, .inl ⟨hw, fun w hS => .inl (hv w hS)⟩, h⟩
theorem wpHead_call {L : Act → Prop} {a : Act} {o : Oper} {l : List Oper} (v : Value) (f : FuncId) (args : Array Value) (hw : Region.wanted o (yielded ops a.tmps) = true) (hv : ∀ w, (execOp a.eval o).run P w = .ok (.enter f args) w)
    (hc : ∀ w, S w → Calls P f args w (fun e w'' => e = .returned v ∧ w'' = w))
    (h : wpHead P ops S L l (a.put o.dst v)) : wpHead P ops S L (o :: l) a := ⟨v, .inl ⟨hw, fun w hS => .inr ⟨f, args, hv w, hc w hS⟩⟩, h⟩
def Region.setFrom : Nat → Nat → Array Bool → Array Bool
  | 0, _, l => l
  | n + 1, k, l => Region.setFrom n (k + 1) (l.setIfInBounds k true)
def Region.lexH (md : Region.Mode) (ops : Array Oper) : Nat → Nat → Array Bool → Bool
  | 0, _, _ => true
  | f + 1, k, listed => (Region.ready md ops listed).contains k && Region.free md ops listed k && Region.lexH md ops f (k + 1) (listed.setIfInBounds k true)
theorem wpAnyH_head {g : Nat} (hsel : Region.noSelect ops = true) (hQ : ∀ c a d v w, Q (.panic c) (a.put d v) w → Q (.panic c) a w) : ∀ (l : List Oper) (k : Nat) (listed : Array Bool) (a : Act) (w : World), (∀ j, j < l.length → l[j]? = ops[k + j]?) →
    Region.lexH md ops l.length k listed = true → S w → wpHead P ops S (fun a' => wpAnyH P md ops Q S g (Region.setFrom l.length k listed) a' w) l a → wpAnyH P md ops Q S (g + l.length) listed a w
  | [], _, _, _, _, _, _, _, h => h
  | o :: l, k, listed, a, w, hl, hB, hS, h => by
    have h0 : ops[k]? = some o := by simpa using (hl 0 (by simp)).symm
    simp only [List.length_cons, Region.lexH, Bool.and_eq_true] at hB
    obtain ⟨⟨hr, hf⟩, hB'⟩ := hB
    obtain ⟨v, hy, hK⟩ := h
    exact wpAnyH_firstS h0 (Region.noSelect_spec hsel) (fun c a w => hQ c a _ _ w) (g + l.length) listed a w (Region.free_spec h0 hf) (by simpa using hr) hy hS
      (wpAnyH_head hsel hQ l (k + 1) _ _ w (fun j hj => by have := hl (j + 1) (by simp; omega); simpa [Nat.add_assoc, Nat.add_comm 1 j] using this) hB' hS hK)
/-- The beginning: n operations of the head, g of the rest. -/
theorem wp_region_head {id : Nat} {a : Act} {w : World} {l : List Oper} (S : World → Prop) (n g : Nat) (hm : P.follows .mixedOrders = true) (hng : l.length = g + n) (hB : (Region.noSelect l.toArray && Region.lexH .any l.toArray n 0 (Array.replicate l.length false)) = true)
    (hQ : ∀ c a d v w, Q (.panic c) (a.put d v) w → Q (.panic c) a w) (hS : S w.drew)
    (h : wpHead P l.toArray S (fun a' => wpAnyH P .any l.toArray Q S g (Region.setFrom n 0 (Array.replicate l.length false)) a' w.drew) (l.take n) a) : (Code.region id l.toArray true).wp P Q a w := by
  simp only [Bool.and_eq_true] at hB
  have ht : (l.take n).length = n := by simp; omega
  refine wp_region_held (S := S) hm ?_
  have := wpAnyH_head (md := .any) (g := g) (S := S) hB.1 hQ (l.take n) 0 (Array.replicate l.length false) a w.drew (fun j hj => by
    have hj' : j < n := by rw [ht] at hj; exact hj
    simp [hj']) (by rw [ht]; exact hB.2) hS (by rw [ht]; exact h)
  rw [ht, ← hng] at this
  exact this
/-- The one operation that may come up. -/
theorem wpAnyH_one {i fuel : Nat} {listed : Array Bool} {a : Act} {w : World} {o : Oper} (hr : Region.ready md ops listed = [i]) (ho : ops[i]? = some o) (hw : Region.wanted o (yielded ops a.tmps) = true)
    (h : Oper.wp P o a w (fun a' w' => S w' ∧ wpAnyH P md ops Q S fuel (listed.setIfInBounds i true) a' w') Q) : wpAnyH P md ops Q S (fuel + 1) listed a w := by
  refine wpAnyH_all hr (by simp) fun j hj => ?_
  obtain rfl : j = i := by simpa using hj
  unfold wpOp
  simp only [ho, hw, if_true]
  exact .inl h
theorem wp_store_row' {w : World} {o : Oper} {a : Act} {K : Act → World → Prop} {c c' : Array Value} {t : TypeId} (ty : TypeId) (x y : Operand) (ho : o.op = .store ty x y)
    (g : Nat) (hx : a.eval x = .pointer (some ⟨g, 0, none⟩)) (hy : a.eval y = .agg c') (hg : w.heap[g]? = some (.cells c t (0, 0))) (hi : (P.info? ty).map (·.size) = some c'.size) (hs : c.size = c'.size) (h1 : c'.all (·.oneCell') = true)
    (h : ∀ w', w.setRow g c' = w' → K (a.put o.dst undef) w') : Oper.wp P o a w K Q := by
  unfold Oper.wp execOp
  simp only [ho, hx, hy, Instr.storeAt, Instr.sureAddr, Sem.run_bind, Sem.run_pure, Result.andThen_ok, run_storeVar_row (P := P) _ _ t ty c c' hg hi hs h1]
  exact h _ rfl
end
end Go

namespace Go
open Go.RowKit
/-- The beginning, in a function that does not panic in this region. -/
theorem wp_region_headN {P : Program} {Q : Exit → Act → World → Prop} {id : Nat} {a : Act} {w : World} {l : List Oper} (S : World → Prop) (n g : Nat) (hm : P.follows .mixedOrders = true) (hng : l.length = g + n) (hB : (Region.noSelect l.toArray && Region.lexH .any l.toArray n 0 (Array.replicate l.length false)) = true)
    (hS : S w.drew) (h : wpHead P l.toArray S (fun a' => wpAnyH P .any l.toArray (NoPanic Q) S g (Region.setFrom n 0 (Array.replicate l.length false)) a' w.drew) (l.take n) a) : (Code.region id l.toArray true).wp P Q a w :=
  wp_region_noPanic (wp_region_head S n g hm hng hB (fun _ _ _ _ _ h => h) hS h)
theorem wpAnyH_doneN {P : Program} {ops : Array Oper} {Q : Exit → Act → World → Prop} {md : Region.Mode} {S : World → Prop} {listed : Array Bool} {a : Act} {w : World} {fuel : Nat} (hr : Region.ready md ops listed = []) (h : Q .normal a w) : wpAnyH P md ops (NoPanic Q) S fuel listed a w := wpAnyH_done hr (NoPanic.normal h) fuel
theorem of_step {c : Bool} {X E : Prop} (hc : c = true) (h : if c = true then X else E) : X := by rwa [if_pos hc] at h
/-- The one operation that may come up, written out. -/
theorem wpAnyH_next {P : Program} {l rest : List Oper} {Q : Exit → Act → World → Prop} {md : Region.Mode} {S : World → Prop} {i fuel : Nat} {listed : Array Bool} {a : Act} {w : World} {o : Oper} (hr : Region.ready md l.toArray listed = [i]) (ho : l.drop i = o :: rest) (hw : Region.wanted o (yielded l.toArray a.tmps) = true)
    (h : ∀ K : Act → World → Prop, Shut (∀ a w, S w → wpAnyH P md l.toArray Q S fuel (listed.setIfInBounds i true) a w → K a w) → Oper.wp P o a w K Q) : wpAnyH P md l.toArray Q S (fuel + 1) listed a w :=
  wpAnyH_one hr (by
    have : (l.drop i)[0]? = some o := by rw [ho]; rfl
    rw [List.getElem?_drop] at this
    simpa using this) hw (h _ fun a w hS hW => ⟨hS, hW⟩)
end Go
