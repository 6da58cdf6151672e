/-
  Words that all walks of this seat share: a slice that reads as a list of values (Rd), bytes (BS), a list of byte slices (BSS); bit operations of int; small helpers.
-/
import Derived.WalkKit
import Derived.Lib.Hide
import Derived.WalkSmall
import Derived.Deep.Draws
import Derived.Laws.OwnMore
import Derived.Deep.AppendLies
import Derived.Laws.BitsAllLaws
import Derived.Laws.BitsLemmas
import Derived.OwnWalk
import Derived.Maps.AppendAt
set_option linter.unusedSimpArgs false
set_option linter.unusedVariables false
namespace Go.Proofs.Yticfmhmkgcdhgaa
open Go.RowKit

/-- The slice address A reads, cell by cell, as the values xs. -/
def Rd (w : World) (A : Option Addr) (xs : List Value) : Prop :=
  ∀ j u, xs[j]? = some u → ∃ b o, A = some ⟨b, o, none⟩ ∧ w.cell? ⟨b, o + j, none⟩ = some u

theorem cell_lt {w : World} {b o : Nat} {u : Value} (h : w.cell? ⟨b, o, none⟩ = some u) : b < w.heap.size := by
  rcases Nat.lt_or_ge b w.heap.size with hlt | hge
  · exact hlt
  · simp [World.cell?, Array.getElem?_eq_none hge] at h

theorem Rd.nil (w : World) (A : Option Addr) : Rd w A [] := by intro j u h; simp at h
theorem Rd.below {w w' : World} {A : Option Addr} {xs : List Value} (h : Rd w A xs) (hb : Below w.heap.size w w') : Rd w' A xs := by
  intro j u hu
  obtain ⟨b, o, e, hc⟩ := h j u hu
  exact ⟨b, o, e, (hb.cell (p := ⟨b, o + j, none⟩) (cell_lt hc)).trans hc⟩
theorem Rd.at_ {w : World} {A : Option Addr} {xs : List Value} (h : Rd w A xs) {j : Nat} (hj : j < xs.length) :
    ∃ b o, A = some ⟨b, o, none⟩ ∧ w.cell? ⟨b, o + j, none⟩ = some xs[j] := h j xs[j] (List.getElem?_eq_getElem hj)

/-- Bytes as values. -/
def bv (l : List UInt8) : List Value := l.map fun x => .int .u8 (x.toNat : Int)
theorem bv_length (l : List UInt8) : (bv l).length = l.length := by simp [bv]
theorem bv_get (l : List UInt8) (j : Nat) (h : j < l.length) : (bv l)[j]? = some (.int .u8 ((l[j]'h).toNat : Int)) := by simp [bv, h]

/-- The value v is a slice that reads as the bytes l. -/
def BS (w : World) (v : Value) (l : List UInt8) : Prop := ∃ A c, v = .slice A l.length c ∧ l.length ≤ c ∧ Rd w A (bv l)
theorem BS.below {w w' : World} {v : Value} {l : List UInt8} (h : BS w v l) (hb : Below w.heap.size w w') : BS w' v l := by
  obtain ⟨A, c, e, hc, hr⟩ := h
  exact ⟨A, c, e, hc, hr.below hb⟩

/-- The value v is a slice of slices that reads as the lists of bytes ls. -/
def BSS (w : World) (v : Value) (ls : List (List UInt8)) : Prop :=
  ∃ (A : Option Addr) (c : Nat) (vs : List Value), v = .slice A ls.length c ∧ ls.length ≤ c ∧ Rd w A vs ∧ vs.length = ls.length ∧ ∀ (j : Nat) (x : Value) (y : List UInt8), vs[j]? = some x → ls[j]? = some y → BS w x y
theorem BSS.below {w w' : World} {v : Value} {ls : List (List UInt8)} (h : BSS w v ls) (hb : Below w.heap.size w w') : BSS w' v ls := by
  obtain ⟨A, c, vs, e, hc, hr, hl, hx⟩ := h
  exact ⟨A, c, vs, e, hc, hr.below hb, hl, fun j x y h1 h2 => (hx j x y h1 h2).below hb⟩

theorem Rd.alloc {w : World} {A : Option Addr} {xs : List Value} (h : Rd w A xs) (o : Obj) : Rd (w.alloc o) A xs := h.below ((Below.refl _ _).alloc (Nat.le_refl _) _)
theorem Rd.drewN {w : World} {A : Option Addr} {xs : List Value} (h : Rd w A xs) (n : Nat) : Rd (w.drewN n) A xs := h
theorem Rd.drew {w : World} {A : Option Addr} {xs : List Value} (h : Rd w A xs) : Rd w.drew A xs := h
theorem Rd.new (w : World) (cs : Array Value) (t : TypeId) : Rd (w.alloc (.cells cs t)) (some ⟨w.heap.size, 0, none⟩) cs.toList := by
  intro j u hu
  refine ⟨w.heap.size, 0, rfl, ?_⟩
  rw [cell_of_row _ w.heap.size (0 + j) cs t (0, 0) (heap_alloc_new w _)]
  simpa using hu
theorem BS.alloc {w : World} {v : Value} {l : List UInt8} (h : BS w v l) (o : Obj) : BS (w.alloc o) v l := h.below ((Below.refl _ _).alloc (Nat.le_refl _) _)
theorem BS.drewN {w : World} {v : Value} {l : List UInt8} (h : BS w v l) (n : Nat) : BS (w.drewN n) v l := h
/-- A new slice of slices. -/
theorem BSS.new (w : World) (vs : List Value) (ls : List (List UInt8)) (t : TypeId) (H n : Nat) (hH : w.heap.size = H) (hn : n = ls.length) (hl : vs.length = ls.length) (h : ∀ (j : Nat) (x : Value) (y : List UInt8), vs[j]? = some x → ls[j]? = some y → BS w x y) :
    BSS (w.alloc (.cells vs.toArray t)) (.slice (some ⟨H, 0, none⟩) n n) ls := by
  subst hn; subst hH
  exact ⟨_, _, vs, rfl, Nat.le_refl _, by simpa using Rd.new w vs.toArray t, hl, fun j x y h1 h2 => (h j x y h1 h2).alloc _⟩
theorem BSS.one {w : World} {v : Value} {l : List UInt8} (h : BS w v l) (t : TypeId) {H : Nat} (hH : w.heap.size = H) : BSS (w.alloc (.cells #[v] t)) (.slice (some ⟨H, 0, none⟩) 1 1) [l] :=
  BSS.new w [v] [l] t H 1 hH rfl rfl fun j x y h1 h2 => by
    match j, h1, h2 with
    | 0, h1, h2 => simp at h1 h2; subst h1; subst h2; exact h
theorem BSS.two {w : World} {v v' : Value} {l l' : List UInt8} (h : BS w v l) (h' : BS w v' l') (t : TypeId) {H : Nat} (hH : w.heap.size = H) : BSS (w.alloc (.cells #[v, v'] t)) (.slice (some ⟨H, 0, none⟩) 2 2) [l, l'] :=
  BSS.new w [v, v'] [l, l'] t H 2 hH rfl rfl fun j x y h1 h2 => by
    match j, h1, h2 with
    | 0, h1, h2 => simp at h1 h2; subst h1; subst h2; exact h
    | 1, h1, h2 => simp at h1 h2; subst h1; subst h2; exact h'
theorem BSS.three {w : World} {v v' v'' : Value} {l l' l'' : List UInt8} (h : BS w v l) (h' : BS w v' l') (h'' : BS w v'' l'') (t : TypeId) {H : Nat} (hH : w.heap.size = H) : BSS (w.alloc (.cells #[v, v', v''] t)) (.slice (some ⟨H, 0, none⟩) 3 3) [l, l', l''] :=
  BSS.new w [v, v', v''] [l, l', l''] t H 3 hH rfl rfl fun j x y h1 h2 => by
    match j, h1, h2 with
    | 0, h1, h2 => simp at h1 h2; subst h1; subst h2; exact h
    | 1, h1, h2 => simp at h1 h2; subst h1; subst h2; exact h'
    | 2, h1, h2 => simp at h1 h2; subst h1; subst h2; exact h''
/-- A new slice of bytes. -/
theorem BS.new (w : World) (l : List UInt8) (cs : Array Value) (t : TypeId) (n : Nat) (hn : n = l.length) (hcs : cs.toList = bv l) {H : Nat} (hH : w.heap.size = H) : BS (w.alloc (.cells cs t)) (.slice (some ⟨H, 0, none⟩) n n) l := by
  subst hn; subst hH
  exact ⟨_, _, rfl, Nat.le_refl _, hcs ▸ Rd.new w cs t⟩

/-- s[:n] and s[n:]. -/
theorem Rd.take {w : World} {A : Option Addr} {xs : List Value} (h : Rd w A xs) (n : Nat) : Rd w A (xs.take n) := by
  intro j u hu
  rw [List.getElem?_take] at hu
  split at hu
  · exact h j u hu
  · cases hu
theorem Rd.drop {w : World} {A : Option Addr} {xs : List Value} (h : Rd w A xs) (n c : Nat) (hc : xs.length ≤ c) : Rd w (if c = n then A else A.map (·.add n)) (xs.drop n) := by
  intro j u hu
  rw [List.getElem?_drop] at hu
  obtain ⟨b, o, rfl, hcell⟩ := h (n + j) u hu
  have hlt : n + j < xs.length := (List.getElem?_eq_some_iff.1 hu).1
  rw [if_neg (by omega)]
  refine ⟨b, o + n, ?_, by rw [Nat.add_assoc]; exact hcell⟩
  show some _ = some _
  unfold Addr.add
  split <;> simp_all
theorem bv_take (l : List UInt8) (n : Nat) : bv (l.take n) = (bv l).take n := by simp [bv, List.map_take]
theorem bv_drop (l : List UInt8) (n : Nat) : bv (l.drop n) = (bv l).drop n := by simp [bv, List.map_drop]
theorem BS.of {w : World} {A : Option Addr} {c : Nat} {l : List UInt8} (h : Rd w A (bv l)) (hc : l.length ≤ c) : BS w (.slice A l.length c) l := ⟨A, c, rfl, hc, h⟩
theorem BS.take {w : World} {A : Option Addr} {c : Nat} {l : List UInt8} (h : Rd w A (bv l)) (hc : l.length ≤ c) {n : Nat} (hn : n ≤ l.length) : BS w (.slice A n c) (l.take n) :=
  ⟨A, c, by rw [List.length_take, Nat.min_eq_left hn], by rw [List.length_take]; omega, by rw [bv_take]; exact h.take n⟩
theorem BS.drop {w : World} {A : Option Addr} {c : Nat} {l : List UInt8} (h : Rd w A (bv l)) (hc : l.length ≤ c) {n : Nat} (hn : n ≤ l.length) :
    BS w (.slice (if c = n then A else A.map (·.add n)) (l.length - n) (c - n)) (l.drop n) :=
  ⟨_, _, by rw [List.length_drop], by rw [List.length_drop]; omega, by rw [bv_drop]; exact h.drop n c (by rw [bv_length]; exact hc)⟩
theorem BS.nil (w : World) : BS w (.slice none 0 0) [] := ⟨none, 0, rfl, Nat.le_refl _, Rd.nil _ _⟩

theorem ofInt_i64 (a : Nat) (ha : a < 9223372036854775808) : (BitVec.ofInt 64 (a : Int)).toNat = a := by
  rw [BitVec.ofInt_natCast, BitVec.toNat_ofNat]; exact Nat.mod_eq_of_lt (by omega)
theorem i64_and_nat (a b : Nat) (ha : a < 9223372036854775808) (hb : b < 9223372036854775808) : bits .and .i64 (a : Int) (b : Int) = ((a &&& b : Nat) : Int) := by
  have hx : a &&& b < 2 ^ 63 := Nat.and_lt_two_pow _ (by omega)
  show IntKind.i64.wrap ((BitVec.ofInt 64 (a : Int) &&& BitVec.ofInt 64 (b : Int)).toNat : Int) = _
  rw [BitVec.toNat_and, ofInt_i64 a ha, ofInt_i64 b hb, IntKind.wrap_i64]
  omega
theorem i64_or_nat (a b : Nat) (ha : a < 9223372036854775808) (hb : b < 9223372036854775808) : bits .or .i64 (a : Int) (b : Int) = ((a ||| b : Nat) : Int) := by
  have hx : a ||| b < 2 ^ 63 := Nat.or_lt_two_pow (by omega) (by omega)
  show IntKind.i64.wrap ((BitVec.ofInt 64 (a : Int) ||| BitVec.ofInt 64 (b : Int)).toNat : Int) = _
  rw [BitVec.toNat_or, ofInt_i64 a ha, ofInt_i64 b hb, IntKind.wrap_i64]
  omega
theorem i64_xor_nat (a b : Nat) (ha : a < 9223372036854775808) (hb : b < 9223372036854775808) : bits .xor .i64 (a : Int) (b : Int) = ((a ^^^ b : Nat) : Int) := by
  have hx : a ^^^ b < 2 ^ 63 := Nat.xor_lt_two_pow (by omega) (by omega)
  show IntKind.i64.wrap ((BitVec.ofInt 64 (a : Int) ^^^ BitVec.ofInt 64 (b : Int)).toNat : Int) = _
  rw [BitVec.toNat_xor, ofInt_i64 a ha, ofInt_i64 b hb, IntKind.wrap_i64]
  omega
theorem ret_int {k : IntKind} {a b : Int} (h : a = b) : Ending.returned (.int k a) = .returned (.int k b) := by rw [h]
theorem ret_bool {a b : Bool} (h : a = b) : Ending.returned (.bool a) = .returned (.bool b) := by rw [h]

theorem bmono {B : Nat} {w a b : World} (h : Below B w a) (h' : Below a.heap.size a b) (hB : B ≤ a.heap.size) : Below B w b := h.trans (h'.mono hB)
theorem bnext {w a b : World} (h : Below w.heap.size w a) (h' : Below a.heap.size a b) : Below w.heap.size w b := h.trans (h'.mono h.size)

theorem bal {w a : World} (h : Below w.heap.size w a) (o : Obj) : Below w.heap.size w (a.alloc o) := h.alloc h.size o

/-- Ints as values. -/
def zv (l : List Int) : List Value := l.map fun x => .int .i64 x
theorem zv_length (l : List Int) : (zv l).length = l.length := by simp [zv]
theorem zv_get (l : List Int) (j : Nat) (h : j < l.length) : (zv l)[j]? = some (.int .i64 (l[j]'h)) := by simp [zv, h]
theorem zv_append (l m : List Int) : zv (l ++ m) = zv l ++ zv m := by simp [zv]
theorem bv_append (l m : List UInt8) : bv (l ++ m) = bv l ++ bv m := by simp [bv]
/-- Natural numbers as values. -/
def nv (l : List Nat) : List Value := l.map fun (x : Nat) => .int .i64 (x : Int)
theorem nv_length (l : List Nat) : (nv l).length = l.length := by simp [nv]
theorem nv_get (l : List Nat) (j : Nat) (h : j < l.length) : (nv l)[j]? = some (.int .i64 ((l[j]'h : Nat) : Int)) := by simp [nv, h]
theorem nv_append (l m : List Nat) : nv (l ++ m) = nv l ++ nv m := by simp [nv]

/-- An owned row, read. -/
theorem own_rd {w : World} {base : Nat} {e : TypeId} {v : Value} {n : Nat} {xs : List Value} (h : w.ownsRow base e 1 v n xs) :
    ∃ A c, v = .slice A n c ∧ n ≤ c ∧ Rd w A xs := by
  have hl := h.1
  rcases h.2 with ⟨rfl, rfl⟩ | ⟨g, cap, cur, rfl, hb, hg, hn, hm, hs, ht⟩
  · refine ⟨none, 0, rfl, Nat.le_refl _, ?_⟩
    have : xs = [] := List.eq_nil_of_length_eq_zero (by omega)
    subst this
    exact Rd.nil _ _
  · refine ⟨some ⟨g, 0, none⟩, cap, rfl, hn, fun j u hu => ⟨g, 0, rfl, ?_⟩⟩
    have := h.cells (g := g) rfl j u hu
    rwa [show (⟨g, 0, none⟩ : Addr).add j = ⟨g, 0 + j, none⟩ from by unfold Addr.add; split <;> simp_all] at this

/-- append of ONE element onto a row of the call's own, the element boxed right before: the world's part below w0 is kept. -/
theorem app1 {P : Program} {w0 W : World} {ops : Array Oper} {rest : List Oper} {o : Oper} {a : Act} {Q : Exit → Act → World → Prop} (hgd : o.guard = none) (s x : Operand) (t : TypeId)
    (ho : o.op = .call { callee := .builtin .append, args := #[s, x], argTypes := #[t, t] })
    {base : Nat} {e : TypeId} {z : Value} {size bytes : Nat} (ht : P.underlying t = some (.slice e)) (hi : (P.info? e).map (fun i => (i.zero, i.size, i.bytes)) = some (some z, size, bytes)) (hzs : z.cells.size = size) (hsz : 0 < size)
    {v : Value} {n : Nat} {xs : List Value} (hs : a.eval s = v) (hown : W.ownsRow base e size v n xs) (hB : w0.heap.size ≤ base) (hbW : base ≤ W.heap.size) (hb : Below w0.heap.size w0 W)
    {arr : Array Value} (hx : a.eval x = .slice (some ⟨W.heap.size, 0, none⟩) 1 1) (hl : arr.size = size) (h1 : ∀ u ∈ arr.toList, u.oneCell' = true)
    (hbytes : (n + 1) * bytes ≤ 140737488355328) (h63 : n + 1 ≤ maxLen)
    (h : ∀ v' w1, w1.ownsRow base e size v' (n + 1) (xs ++ arr.toList) → Below w0.heap.size w0 w1 → base ≤ w1.heap.size → wpList P ops Q rest (a.put o.dst v') w1) :
    wpList P ops Q (o :: rest) a (W.alloc (.cells arr e)) := by
  obtain ⟨i, hi, hz0, hz1, hz2⟩ := info_parts hi
  refine wpList_append_own (W.alloc (.cells arr e)) hgd s x t ho base e i z size bytes ht hi hz0 hz1 hz2 hzs hsz v n xs hs (hown.alloc _) ⟨W.heap.size, 0, none⟩ 1 1 arr.toList hx (by simp [hl]) ?_ h1 h63 hbytes (by simp; omega) ?_
  · intro j u hu
    have : (⟨W.heap.size, 0, none⟩ : Addr).add j = ⟨W.heap.size, j, none⟩ := by unfold Addr.add; split <;> simp_all
    rw [this, cell_of_row _ W.heap.size j arr e (0, 0) (heap_alloc_new W _)]
    simpa using hu
  · intro v' w1 hown1 hgrow _
    refine h v' w1 hown1 ((hb.alloc (by omega) _).grown hgrow (by simp; omega) ?_) ?_
    · intro k hk
      have := (hown.lt k hk).1
      omega
    · have := hgrow.size; simp at this; omega

theorem one_int (k : IntKind) (n : Int) : ∀ u ∈ (#[Value.int k n]).toList, u.oneCell' = true := by intro u hu; simp at hu; subst hu; rfl

/-- f, so many times. -/
def it (f : Nat → Nat) : Nat → Nat → Nat
  | 0, s => s
  | k + 1, s => f (it f k s)
theorem it_lt {f : Nat → Nat} {B : Nat} (h : ∀ s, s < B → f s < B) : ∀ (k s : Nat), s < B → it f k s < B
  | 0, _, hs => hs
  | k + 1, s, hs => h _ (it_lt h k s hs)
end Go.Proofs.Yticfmhmkgcdhgaa
