/-
  Words that all walks of this seat share: a slice that reads as a list of values (Rd), bytes (BS), a list of byte slices (BSS); bit operations of int; small helpers.
  Loads and stores of whole structs and arrays; a block below others.
  Bits of bytes: plain.
  More words: append in a region that draws; xor of bytes; a world given a letter.
  append of a slice that reads as a list onto a row of the call's own; rows.
  slices.Clone of bytes.
  Reader: NewReader, Left, At, Seek, Take.
  Reader.Take.
  Reader: Take whole, Signed, bit, Unary, Align.
-/
import Derived.WalkKit
import Derived.Lib.Hide
import Derived.WalkSmall
import Derived.Deep.Draws
import Derived.Laws.OwnMore
import Derived.Deep.AppendLies
import Derived.Laws.BitsAllLaws
import Derived.Laws.BitsLemmas
import Derived.OwnWalk
import Derived.Maps.AppendAt
import Derived.Deep.WholeRow
import Derived.Deep.MidRow
import Derived.Laws.StructEq
import Derived.KernelRfl
import Derived.Deep.RegionHeld3
import Derived.Laws.AppendOwnNone
import Derived.Test.YtgohfbfdhdepnaaDoorRows
import Derived.WalkSpells
import Derived.Deep.QuietTactic
import Derived.BigQuiet
import Derived.Deep.DeepCutAuto
set_option linter.unusedSimpArgs false
set_option linter.unusedVariables false
namespace Go.Proofs.YtgohfbfdhdepnaaDoor
open Go.RowKit

/-- The slice address A reads, cell by cell, as the values xs. -/
def Rd (w : World) (A : Option Addr) (xs : List Value) : Prop :=
  ∀ j u, xs[j]? = some u → ∃ b o, A = some ⟨b, o, none⟩ ∧ w.cell? ⟨b, o + j, none⟩ = some u

theorem cell_lt {w : World} {b o : Nat} {u : Value} (h : w.cell? ⟨b, o, none⟩ = some u) : b < w.heap.size := by
  rcases Nat.lt_or_ge b w.heap.size with hlt | hge
  · exact hlt
  · simp [World.cell?, Array.getElem?_eq_none hge] at h

theorem Rd.nil (w : World) (A : Option Addr) : Rd w A [] := by intro j u h; simp at h
theorem Rd.below {w w' : World} {A : Option Addr} {xs : List Value} (h : Rd w A xs) (hb : Below w.heap.size w w') : Rd w' A xs := by
  intro j u hu
  obtain ⟨b, o, e, hc⟩ := h j u hu
  exact ⟨b, o, e, (hb.cell (p := ⟨b, o + j, none⟩) (cell_lt hc)).trans hc⟩
theorem Rd.at_ {w : World} {A : Option Addr} {xs : List Value} (h : Rd w A xs) {j : Nat} (hj : j < xs.length) :
    ∃ b o, A = some ⟨b, o, none⟩ ∧ w.cell? ⟨b, o + j, none⟩ = some xs[j] := h j xs[j] (List.getElem?_eq_getElem hj)

/-- Bytes as values. -/
def bv (l : List UInt8) : List Value := l.map fun x => .int .u8 (x.toNat : Int)
theorem bv_length (l : List UInt8) : (bv l).length = l.length := by simp [bv]
theorem bv_get (l : List UInt8) (j : Nat) (h : j < l.length) : (bv l)[j]? = some (.int .u8 ((l[j]'h).toNat : Int)) := by simp [bv, h]

/-- The value v is a slice that reads as the bytes l. -/
def BS (w : World) (v : Value) (l : List UInt8) : Prop := ∃ A c, v = .slice A l.length c ∧ l.length ≤ c ∧ Rd w A (bv l)
theorem BS.below {w w' : World} {v : Value} {l : List UInt8} (h : BS w v l) (hb : Below w.heap.size w w') : BS w' v l := by
  obtain ⟨A, c, e, hc, hr⟩ := h
  exact ⟨A, c, e, hc, hr.below hb⟩

/-- The value v is a slice of slices that reads as the lists of bytes ls. -/
def BSS (w : World) (v : Value) (ls : List (List UInt8)) : Prop :=
  ∃ (A : Option Addr) (c : Nat) (vs : List Value), v = .slice A ls.length c ∧ ls.length ≤ c ∧ Rd w A vs ∧ vs.length = ls.length ∧ ∀ (j : Nat) (x : Value) (y : List UInt8), vs[j]? = some x → ls[j]? = some y → BS w x y
theorem BSS.below {w w' : World} {v : Value} {ls : List (List UInt8)} (h : BSS w v ls) (hb : Below w.heap.size w w') : BSS w' v ls := by
  obtain ⟨A, c, vs, e, hc, hr, hl, hx⟩ := h
  exact ⟨A, c, vs, e, hc, hr.below hb, hl, fun j x y h1 h2 => (hx j x y h1 h2).below hb⟩

theorem Rd.alloc {w : World} {A : Option Addr} {xs : List Value} (h : Rd w A xs) (o : Obj) : Rd (w.alloc o) A xs := h.below ((Below.refl _ _).alloc (Nat.le_refl _) _)
theorem Rd.drewN {w : World} {A : Option Addr} {xs : List Value} (h : Rd w A xs) (n : Nat) : Rd (w.drewN n) A xs := h
theorem Rd.drew {w : World} {A : Option Addr} {xs : List Value} (h : Rd w A xs) : Rd w.drew A xs := h
theorem Rd.new (w : World) (cs : Array Value) (t : TypeId) : Rd (w.alloc (.cells cs t)) (some ⟨w.heap.size, 0, none⟩) cs.toList := by
  intro j u hu
  refine ⟨w.heap.size, 0, rfl, ?_⟩
  rw [cell_of_row _ w.heap.size (0 + j) cs t (0, 0) (heap_alloc_new w _)]
  simpa using hu
theorem BS.alloc {w : World} {v : Value} {l : List UInt8} (h : BS w v l) (o : Obj) : BS (w.alloc o) v l := h.below ((Below.refl _ _).alloc (Nat.le_refl _) _)
theorem BS.drewN {w : World} {v : Value} {l : List UInt8} (h : BS w v l) (n : Nat) : BS (w.drewN n) v l := h
/-- A new slice of slices. -/
theorem BSS.new (w : World) (vs : List Value) (ls : List (List UInt8)) (t : TypeId) (H n : Nat) (hH : w.heap.size = H) (hn : n = ls.length) (hl : vs.length = ls.length) (h : ∀ (j : Nat) (x : Value) (y : List UInt8), vs[j]? = some x → ls[j]? = some y → BS w x y) :
    BSS (w.alloc (.cells vs.toArray t)) (.slice (some ⟨H, 0, none⟩) n n) ls := by
  subst hn; subst hH
  exact ⟨_, _, vs, rfl, Nat.le_refl _, by simpa using Rd.new w vs.toArray t, hl, fun j x y h1 h2 => (h j x y h1 h2).alloc _⟩
theorem BSS.one {w : World} {v : Value} {l : List UInt8} (h : BS w v l) (t : TypeId) {H : Nat} (hH : w.heap.size = H) : BSS (w.alloc (.cells #[v] t)) (.slice (some ⟨H, 0, none⟩) 1 1) [l] :=
  BSS.new w [v] [l] t H 1 hH rfl rfl fun j x y h1 h2 => by
    match j, h1, h2 with
    | 0, h1, h2 => simp at h1 h2; subst h1; subst h2; exact h
theorem BSS.two {w : World} {v v' : Value} {l l' : List UInt8} (h : BS w v l) (h' : BS w v' l') (t : TypeId) {H : Nat} (hH : w.heap.size = H) : BSS (w.alloc (.cells #[v, v'] t)) (.slice (some ⟨H, 0, none⟩) 2 2) [l, l'] :=
  BSS.new w [v, v'] [l, l'] t H 2 hH rfl rfl fun j x y h1 h2 => by
    match j, h1, h2 with
    | 0, h1, h2 => simp at h1 h2; subst h1; subst h2; exact h
    | 1, h1, h2 => simp at h1 h2; subst h1; subst h2; exact h'
theorem BSS.three {w : World} {v v' v'' : Value} {l l' l'' : List UInt8} (h : BS w v l) (h' : BS w v' l') (h'' : BS w v'' l'') (t : TypeId) {H : Nat} (hH : w.heap.size = H) : BSS (w.alloc (.cells #[v, v', v''] t)) (.slice (some ⟨H, 0, none⟩) 3 3) [l, l', l''] :=
  BSS.new w [v, v', v''] [l, l', l''] t H 3 hH rfl rfl fun j x y h1 h2 => by
    match j, h1, h2 with
    | 0, h1, h2 => simp at h1 h2; subst h1; subst h2; exact h
    | 1, h1, h2 => simp at h1 h2; subst h1; subst h2; exact h'
    | 2, h1, h2 => simp at h1 h2; subst h1; subst h2; exact h''
/-- A new slice of bytes. -/
theorem BS.new (w : World) (l : List UInt8) (cs : Array Value) (t : TypeId) (n : Nat) (hn : n = l.length) (hcs : cs.toList = bv l) {H : Nat} (hH : w.heap.size = H) : BS (w.alloc (.cells cs t)) (.slice (some ⟨H, 0, none⟩) n n) l := by
  subst hn; subst hH
  exact ⟨_, _, rfl, Nat.le_refl _, hcs ▸ Rd.new w cs t⟩

/-- s[:n] and s[n:]. -/
theorem Rd.take {w : World} {A : Option Addr} {xs : List Value} (h : Rd w A xs) (n : Nat) : Rd w A (xs.take n) := by
  intro j u hu
  rw [List.getElem?_take] at hu
  split at hu
  · exact h j u hu
  · cases hu
theorem Rd.drop {w : World} {A : Option Addr} {xs : List Value} (h : Rd w A xs) (n c : Nat) (hc : xs.length ≤ c) : Rd w (if c = n then A else A.map (·.add n)) (xs.drop n) := by
  intro j u hu
  rw [List.getElem?_drop] at hu
  obtain ⟨b, o, rfl, hcell⟩ := h (n + j) u hu
  have hlt : n + j < xs.length := (List.getElem?_eq_some_iff.1 hu).1
  rw [if_neg (by omega)]
  refine ⟨b, o + n, ?_, by rw [Nat.add_assoc]; exact hcell⟩
  show some _ = some _
  unfold Addr.add
  split <;> simp_all
theorem bv_take (l : List UInt8) (n : Nat) : bv (l.take n) = (bv l).take n := by simp [bv, List.map_take]
theorem bv_drop (l : List UInt8) (n : Nat) : bv (l.drop n) = (bv l).drop n := by simp [bv, List.map_drop]
theorem BS.of {w : World} {A : Option Addr} {c : Nat} {l : List UInt8} (h : Rd w A (bv l)) (hc : l.length ≤ c) : BS w (.slice A l.length c) l := ⟨A, c, rfl, hc, h⟩
theorem BS.take {w : World} {A : Option Addr} {c : Nat} {l : List UInt8} (h : Rd w A (bv l)) (hc : l.length ≤ c) {n : Nat} (hn : n ≤ l.length) : BS w (.slice A n c) (l.take n) :=
  ⟨A, c, by rw [List.length_take, Nat.min_eq_left hn], by rw [List.length_take]; omega, by rw [bv_take]; exact h.take n⟩
theorem BS.drop {w : World} {A : Option Addr} {c : Nat} {l : List UInt8} (h : Rd w A (bv l)) (hc : l.length ≤ c) {n : Nat} (hn : n ≤ l.length) :
    BS w (.slice (if c = n then A else A.map (·.add n)) (l.length - n) (c - n)) (l.drop n) :=
  ⟨_, _, by rw [List.length_drop], by rw [List.length_drop]; omega, by rw [bv_drop]; exact h.drop n c (by rw [bv_length]; exact hc)⟩
theorem BS.nil (w : World) : BS w (.slice none 0 0) [] := ⟨none, 0, rfl, Nat.le_refl _, Rd.nil _ _⟩

theorem ofInt_i64 (a : Nat) (ha : a < 9223372036854775808) : (BitVec.ofInt 64 (a : Int)).toNat = a := by
  rw [BitVec.ofInt_natCast, BitVec.toNat_ofNat]; exact Nat.mod_eq_of_lt (by omega)
theorem i64_and_nat (a b : Nat) (ha : a < 9223372036854775808) (hb : b < 9223372036854775808) : bits .and .i64 (a : Int) (b : Int) = ((a &&& b : Nat) : Int) := by
  have hx : a &&& b < 2 ^ 63 := Nat.and_lt_two_pow _ (by omega)
  show IntKind.i64.wrap ((BitVec.ofInt 64 (a : Int) &&& BitVec.ofInt 64 (b : Int)).toNat : Int) = _
  rw [BitVec.toNat_and, ofInt_i64 a ha, ofInt_i64 b hb, IntKind.wrap_i64]
  omega
theorem i64_or_nat (a b : Nat) (ha : a < 9223372036854775808) (hb : b < 9223372036854775808) : bits .or .i64 (a : Int) (b : Int) = ((a ||| b : Nat) : Int) := by
  have hx : a ||| b < 2 ^ 63 := Nat.or_lt_two_pow (by omega) (by omega)
  show IntKind.i64.wrap ((BitVec.ofInt 64 (a : Int) ||| BitVec.ofInt 64 (b : Int)).toNat : Int) = _
  rw [BitVec.toNat_or, ofInt_i64 a ha, ofInt_i64 b hb, IntKind.wrap_i64]
  omega
theorem i64_xor_nat (a b : Nat) (ha : a < 9223372036854775808) (hb : b < 9223372036854775808) : bits .xor .i64 (a : Int) (b : Int) = ((a ^^^ b : Nat) : Int) := by
  have hx : a ^^^ b < 2 ^ 63 := Nat.xor_lt_two_pow (by omega) (by omega)
  show IntKind.i64.wrap ((BitVec.ofInt 64 (a : Int) ^^^ BitVec.ofInt 64 (b : Int)).toNat : Int) = _
  rw [BitVec.toNat_xor, ofInt_i64 a ha, ofInt_i64 b hb, IntKind.wrap_i64]
  omega
theorem ret_int {k : IntKind} {a b : Int} (h : a = b) : Ending.returned (.int k a) = .returned (.int k b) := by rw [h]
theorem ret_bool {a b : Bool} (h : a = b) : Ending.returned (.bool a) = .returned (.bool b) := by rw [h]

theorem bmono {B : Nat} {w a b : World} (h : Below B w a) (h' : Below a.heap.size a b) (hB : B ≤ a.heap.size) : Below B w b := h.trans (h'.mono hB)
theorem bnext {w a b : World} (h : Below w.heap.size w a) (h' : Below a.heap.size a b) : Below w.heap.size w b := h.trans (h'.mono h.size)

theorem bal {w a : World} (h : Below w.heap.size w a) (o : Obj) : Below w.heap.size w (a.alloc o) := h.alloc h.size o

/-- Ints as values. -/
def zv (l : List Int) : List Value := l.map fun x => .int .i64 x
theorem zv_length (l : List Int) : (zv l).length = l.length := by simp [zv]
theorem zv_get (l : List Int) (j : Nat) (h : j < l.length) : (zv l)[j]? = some (.int .i64 (l[j]'h)) := by simp [zv, h]
theorem zv_append (l m : List Int) : zv (l ++ m) = zv l ++ zv m := by simp [zv]
theorem bv_append (l m : List UInt8) : bv (l ++ m) = bv l ++ bv m := by simp [bv]
/-- Natural numbers as values. -/
def nv (l : List Nat) : List Value := l.map fun (x : Nat) => .int .i64 (x : Int)
theorem nv_length (l : List Nat) : (nv l).length = l.length := by simp [nv]
theorem nv_get (l : List Nat) (j : Nat) (h : j < l.length) : (nv l)[j]? = some (.int .i64 ((l[j]'h : Nat) : Int)) := by simp [nv, h]
theorem nv_append (l m : List Nat) : nv (l ++ m) = nv l ++ nv m := by simp [nv]

/-- An owned row, read. -/
theorem own_rd {w : World} {base : Nat} {e : TypeId} {v : Value} {n : Nat} {xs : List Value} (h : w.ownsRow base e 1 v n xs) :
    ∃ A c, v = .slice A n c ∧ n ≤ c ∧ Rd w A xs := by
  have hl := h.1
  rcases h.2 with ⟨rfl, rfl⟩ | ⟨g, cap, cur, rfl, hb, hg, hn, hm, hs, ht⟩
  · refine ⟨none, 0, rfl, Nat.le_refl _, ?_⟩
    have : xs = [] := List.eq_nil_of_length_eq_zero (by omega)
    subst this
    exact Rd.nil _ _
  · refine ⟨some ⟨g, 0, none⟩, cap, rfl, hn, fun j u hu => ⟨g, 0, rfl, ?_⟩⟩
    have := h.cells (g := g) rfl j u hu
    rwa [show (⟨g, 0, none⟩ : Addr).add j = ⟨g, 0 + j, none⟩ from by unfold Addr.add; split <;> simp_all] at this

/-- append of ONE element onto a row of the call's own, the element boxed right before: the world's part below w0 is kept. -/
theorem app1 {P : Program} {w0 W : World} {ops : Array Oper} {rest : List Oper} {o : Oper} {a : Act} {Q : Exit → Act → World → Prop} (hgd : o.guard = none) (s x : Operand) (t : TypeId)
    (ho : o.op = .call { callee := .builtin .append, args := #[s, x], argTypes := #[t, t] })
    {base : Nat} {e : TypeId} {z : Value} {size bytes : Nat} (ht : P.underlying t = some (.slice e)) (hi : (P.info? e).map (fun i => (i.zero, i.size, i.bytes)) = some (some z, size, bytes)) (hzs : z.cells.size = size) (hsz : 0 < size)
    {v : Value} {n : Nat} {xs : List Value} (hs : a.eval s = v) (hown : W.ownsRow base e size v n xs) (hB : w0.heap.size ≤ base) (hbW : base ≤ W.heap.size) (hb : Below w0.heap.size w0 W)
    {arr : Array Value} (hx : a.eval x = .slice (some ⟨W.heap.size, 0, none⟩) 1 1) (hl : arr.size = size) (h1 : ∀ u ∈ arr.toList, u.oneCell' = true)
    (hbytes : (n + 1) * bytes ≤ 140737488355328) (h63 : n + 1 ≤ maxLen)
    (h : ∀ v' w1, w1.ownsRow base e size v' (n + 1) (xs ++ arr.toList) → Below w0.heap.size w0 w1 → base ≤ w1.heap.size → wpList P ops Q rest (a.put o.dst v') w1) :
    wpList P ops Q (o :: rest) a (W.alloc (.cells arr e)) := by
  obtain ⟨i, hi, hz0, hz1, hz2⟩ := info_parts hi
  refine wpList_append_own (W.alloc (.cells arr e)) hgd s x t ho base e i z size bytes ht hi hz0 hz1 hz2 hzs hsz v n xs hs (hown.alloc _) ⟨W.heap.size, 0, none⟩ 1 1 arr.toList hx (by simp [hl]) ?_ h1 h63 hbytes (by simp; omega) ?_
  · intro j u hu
    have : (⟨W.heap.size, 0, none⟩ : Addr).add j = ⟨W.heap.size, j, none⟩ := by unfold Addr.add; split <;> simp_all
    rw [this, cell_of_row _ W.heap.size j arr e (0, 0) (heap_alloc_new W _)]
    simpa using hu
  · intro v' w1 hown1 hgrow _
    refine h v' w1 hown1 ((hb.alloc (by omega) _).grown hgrow (by simp; omega) ?_) ?_
    · intro k hk
      have := (hown.lt k hk).1
      omega
    · have := hgrow.size; simp at this; omega

theorem one_int (k : IntKind) (n : Int) : ∀ u ∈ (#[Value.int k n]).toList, u.oneCell' = true := by intro u hu; simp at hu; subst hu; rfl

/-- f, so many times. -/
def it (f : Nat → Nat) : Nat → Nat → Nat
  | 0, s => s
  | k + 1, s => f (it f k s)
theorem it_lt {f : Nat → Nat} {B : Nat} (h : ∀ s, s < B → f s < B) : ∀ (k s : Nat), s < B → it f k s < B
  | 0, _, hs => hs
  | k + 1, s, hs => h _ (it_lt h k s hs)
end Go.Proofs.YtgohfbfdhdepnaaDoor

namespace Go.Proofs.YtgohfbfdhdepnaaDoor
open Go.RowKit

theorem wpList_store_new {P : Program} {w : World} {ops : Array Oper} {rest : List Oper} {op : Oper} {a : Act} {Q : Exit → Act → World → Prop} {c c' : Array Value} {t : TypeId} (hgd : op.guard = none) (ty : TypeId) (x y : Operand) (ho : op.op = .store ty x y)
    (H : Nat) (hx : a.eval x = .pointer (some ⟨H, 0, none⟩)) (hH : w.heap.size = H) (hy : a.eval y = .agg c') (hi : (P.info? ty).map (·.size) = some c'.size) (hs : c.size = c'.size) (h1 : c'.all (·.oneCell') = true)
    (h : ∀ w', w.alloc (.cells c' t) = w' → wpList P ops Q rest (a.put op.dst undef) w') : wpList P ops Q (op :: rest) a (w.alloc (.cells c t)) :=
  wpList_plain hgd fun _ hK => by
    subst hH
    unfold Oper.wp execOp
    have e : (storeVar ty ⟨w.heap.size, 0, none⟩ (.agg c')).run P (w.alloc (.cells c t)) = .ok () (w.alloc (.cells c' t)) := by
      rw [run_storeVar_row (P := P) _ _ t ty c c' (heap_alloc_last w _) hi hs h1, World.setRow_alloc_new]
    simp only [ho, hx, hy, Instr.storeAt, Instr.sureAddr, Sem.run_bind, Sem.run_pure, Result.andThen_ok, e]
    exact hK _ _ (h _ rfl)
theorem hrow_set {w : World} {g : Nat} {cs cs' : Array Value} {t : TypeId} {i : Nat} {v : Value} (h : w.heap[g]? = some (.cells cs t (0, 0))) (he : cs.setIfInBounds i v = cs') : (w.setCell ⟨g, i, none⟩ v).heap[g]? = some (.cells cs' t (0, 0)) := he ▸ heap_setCell_same w g i cs t v h
theorem hrow_alloc {w : World} {g : Nat} {cs : Array Value} {t : TypeId} {f : Nat × Nat} (h : w.heap[g]? = some (.cells cs t f)) (o : Obj) : (w.alloc o).heap[g]? = some (.cells cs t f) := by
  have hl : g < w.heap.size := by
    rcases Nat.lt_or_ge g w.heap.size with h1 | h1
    · exact h1
    · rw [Array.getElem?_eq_none h1] at h; cases h
  exact (_root_.Go.heap_alloc_old w o hl).trans h
theorem heap3_mid (w : World) (a b c : Obj) : (((w.alloc a).alloc b).alloc c).heap[w.heap.size + 1]? = some b := by
  exact (_root_.Go.heap_alloc_old ((w.alloc a).alloc b) c (by simp)).trans (heap_alloc2_new w a b)
theorem Below.setRow {B g : Nat} {w w' : World} (h : Below B w w') (hg : B ≤ g) (cs : Array Value) : Below B w (w'.setRow g cs) :=
  h.trans ⟨rfl, rfl, rfl, by simp, fun k hk => setRow_other _ _ _ _ (by omega)⟩
theorem wpList_store_row {P : Program} {w : World} {ops : Array Oper} {rest : List Oper} {op : Oper} {a : Act} {Q : Exit → Act → World → Prop} {c c' : Array Value} {t : TypeId} (hgd : op.guard = none) (ty : TypeId) (x y : Operand) (ho : op.op = .store ty x y)
    (g : Nat) (hx : a.eval x = .pointer (some ⟨g, 0, none⟩)) (hy : a.eval y = .agg c') (hg : w.heap[g]? = some (.cells c t (0, 0))) (hi : (P.info? ty).map (·.size) = some c'.size) (hs : c.size = c'.size) (h1 : c'.all (·.oneCell') = true)
    (h : wpList P ops Q rest (a.put op.dst undef) (w.setRow g c')) : wpList P ops Q (op :: rest) a w :=
  wpList_plain hgd fun _ hK => by
    unfold Oper.wp execOp
    simp only [ho, hx, hy, Instr.storeAt, Instr.sureAddr, Sem.run_bind, Sem.run_pure, Result.andThen_ok, run_storeVar_row (P := P) _ _ t ty c c' hg hi hs h1]
    exact hK _ _ h
theorem wpList_load_row_g {P : Program} {ops : Array Oper} {rest : List Oper} {o : Oper} {a : Act} {w : World} {Q : Exit → Act → World → Prop} (hw : Region.wanted o (yielded ops a.tmps) = true) (ty : TypeId) (x : Operand) (ho : o.op = .load ty x)
    (g : Nat) (hx : a.eval x = .pointer (some ⟨g, 0, none⟩)) (t : TypeId) (cs : Array Value) (fr : Nat × Nat) (d : TypeDesc) (hg : w.heap[g]? = some (.cells cs t fr))
    (hu : P.underlying ty = some d) (hd : (match d with | .struct _ | .array _ _ => true | _ => false) = true) (hi : (P.info? ty).map (·.size) = some cs.size)
    (h : wpList P ops Q rest (a.put o.dst (.agg cs)) w) : wpList P ops Q (o :: rest) a w :=
  wpList_step fun K hK => by
    simp only [hw, if_true]
    exact wp_load_row ty x ho g hx t cs fr d hg hu hd hi (hK _ _ h)
theorem hrow_below {w w' : World} {g : Nat} {o : Obj} (h : w.heap[g]? = some o) (hb : Below w.heap.size w w') : w'.heap[g]? = some o := by
  have hl : g < w.heap.size := by
    rcases Nat.lt_or_ge g w.heap.size with h1 | h1
    · exact h1
    · rw [Array.getElem?_eq_none h1] at h; cases h
  exact (hb.block g hl).trans h
theorem wp_bin {P : Program} {o : Oper} {a : Act} {w : World} {K : Act → World → Prop} {Q : Exit → Act → World → Prop} (b : BinOp) (T : TypeId) (x y : Operand) (T2 : TypeId) (ho : o.op = .binOp b T x y T2) {xs ys : Array Value} {z : Value} (hx : a.eval x = .agg xs) (hy : a.eval y = .agg ys) (hm : P.eqGuardType P.depth T = false)
    (hr : (binOp b T (.agg xs) (.agg ys)).run P w = .ok z w) (h : K (a.put o.dst z) w) : o.wp P a w K Q := by
  unfold Oper.wp execOp
  simp only [ho, hx, hy, Sem.run_bind, Sem.run_pure, Result.andThen_ok, run_eqGuard_agg (w := w) (hm := hm), hr]
  exact h
theorem belowDown {B R : Nat} {w w' : World} (h : Below B w w') (hR : R ≤ B) : Below R w w' := ⟨h.1, h.2, h.3, h.4, fun k hk => h.5 k (by omega)⟩
theorem results_row_tmp {P : Program} {fn : Func} {p u : Tmp} {ty : TypeId} (h : fn.results = #[.cell p ty, .tmp u]) (tmps : Array Value) (w : World) {g : Nat} {t : TypeId} {cs : Array Value} {fr : Nat × Nat} (v : Value) {d : TypeDesc}
    (hp : tmps.getD p undef = .pointer (some ⟨g, 0, none⟩)) (hv : tmps.getD u undef = v) (hg : w.heap[g]? = some (.cells cs t fr))
    (hu : P.underlying ty = some d) (hd : (match d with | .struct _ | .array _ _ => true | _ => false) = true) (hi : (P.info? ty).map (·.size) = some cs.size) :
    (results fn tmps).run P w = .ok (.tuple #[.agg cs, v]) w := by
  rw [results_cell_tmp h, hp, hv]
  simp [asAddr, Result.andThen, run_loadVar_row w g t ty cs fr d hg hu hd hi]
end Go.Proofs.YtgohfbfdhdepnaaDoor

namespace Go.Proofs.YtgohfbfdhdepnaaDoor
open Go.RowKit

/-- The number of so many bits from a place on. -/
def sg (f : Nat → Nat) (t : Nat) : Nat → Nat
  | 0 => 0
  | n + 1 => 2 * sg f t n + f (t + n)
def bitAt (l : List UInt8) (t : Nat) : Nat := (l.getD (t / 8) 0).toNat / 2 ^ (7 - t % 8) % 2
theorem bitAt_lt (l : List UInt8) (t : Nat) : bitAt l t < 2 := Nat.mod_lt _ (by omega)
theorem sg_lt {f : Nat → Nat} (h : ∀ i, f i < 2) (t : Nat) : ∀ n, sg f t n < 2 ^ n
  | 0 => by simp [sg]
  | n + 1 => by
    have := sg_lt h t n
    have := h (t + n)
    rw [sg, Nat.pow_succ]
    omega
theorem sg_add (f : Nat → Nat) (t a : Nat) : ∀ b, sg f t (a + b) = sg f t a * 2 ^ b + sg f (t + a) b
  | 0 => by simp [sg]
  | b + 1 => by
    rw [show a + (b + 1) = a + b + 1 from rfl, sg, sg_add f t a b, sg, Nat.pow_succ, Nat.add_assoc t a b, Nat.mul_add, ← Nat.mul_assoc, Nat.mul_comm 2, Nat.mul_assoc, Nat.mul_comm 2 (2 ^ b)]
    omega
theorem sg_congr {f g : Nat → Nat} (t : Nat) : ∀ n, (∀ i, i < n → f (t + i) = g (t + i)) → sg f t n = sg g t n
  | 0, _ => rfl
  | n + 1, h => by rw [sg, sg, sg_congr t n fun i hi => h i (by omega), h n (by omega)]
theorem two_step (y k : Nat) : 2 * (y / 2 % 2 ^ k) + y % 2 = y % 2 ^ (k + 1) := by
  rw [Nat.pow_succ, Nat.mul_comm (2 ^ k) 2, Nat.mod_mul]
  omega
theorem sg_byte (l : List UInt8) (t : Nat) : ∀ k, t % 8 + k ≤ 8 → sg (bitAt l) t k = (l.getD (t / 8) 0).toNat / 2 ^ (8 - t % 8 - k) % 2 ^ k
  | 0, _ => by simp [sg, Nat.mod_one]
  | k + 1, h => by
    have e1 : (t + k) / 8 = t / 8 := by omega
    have e2 : 7 - (t + k) % 8 = 8 - t % 8 - (k + 1) := by omega
    have e3 : 8 - t % 8 - k = (8 - t % 8 - (k + 1)) + 1 := by omega
    rw [sg, sg_byte l t k (by omega), bitAt, e1, e2, e3, Nat.pow_succ, ← Nat.div_div_eq_div_mul]
    exact two_step _ _

/-- What may turn in a step: the blocks of S alone. -/
structure Fr (S : Nat → Prop) (w w' : World) : Prop where
  os : w'.os = w.os
  tape : w'.tape = w.tape
  output : w'.output = w.output
  size : w.heap.size ≤ w'.heap.size
  block : ∀ k, k < w.heap.size → ¬ S k → w'.heap[k]? = w.heap[k]?
theorem Fr.refl (S : Nat → Prop) (w : World) : Fr S w w := ⟨rfl, rfl, rfl, Nat.le_refl _, fun _ _ _ => rfl⟩
theorem Fr.trans {S : Nat → Prop} {a b c : World} (h : Fr S a b) (k : Fr S b c) : Fr S a c :=
  ⟨k.os.trans h.os, k.tape.trans h.tape, k.output.trans h.output, Nat.le_trans h.size k.size, fun i hi hs => (k.block i (Nat.lt_of_lt_of_le hi h.size) hs).trans (h.block i hi hs)⟩
theorem Fr.of {S : Nat → Prop} {a b : World} (h : Below a.heap.size a b) : Fr S a b := ⟨h.os, h.tape, h.output, h.size, fun k hk _ => h.block k hk⟩
theorem Fr.next {S : Nat → Prop} {a b c : World} (h : Fr S a b) (k : Below b.heap.size b c) : Fr S a c := h.trans (Fr.of k)
theorem Fr.wide {S T : Nat → Prop} {a b : World} (h : Fr S a b) (hs : ∀ k, S k → T k) : Fr T a b := ⟨h.os, h.tape, h.output, h.size, fun k hk ht => h.block k hk fun hS => ht (hs k hS)⟩
theorem Fr.setCell {S : Nat → Prop} {a b : World} (h : Fr S a b) {p : Addr} (hp : S p.block) (u : Value) : Fr S a (b.setCell p u) :=
  h.trans ⟨rfl, rfl, rfl, by simp [World.setCell], fun k _ hs => Below.heap_setCell _ _ _ _ (fun e => hs (e ▸ hp))⟩
theorem Fr.put {R : Nat} {a b : World} (h : Fr (· = R) a b) (i : Nat) (u : Value) : Fr (· = R) a (b.setCell ⟨R, i, none⟩ u) := h.setCell (p := ⟨R, i, none⟩) rfl u
theorem Fr.drew {S : Nat → Prop} {a b : World} (h : Fr S a b) : Fr S a b.drew := ⟨h.os, h.tape, h.output, h.size, h.block⟩
/-- Below a number that none of S is under, all is as it was. -/
theorem Fr.below {S : Nat → Prop} {w a b : World} (h : Fr S a b) (hw : Below w.heap.size w a) (hs : ∀ k, S k → w.heap.size ≤ k) : Below w.heap.size w b :=
  hw.trans ⟨h.os, h.tape, h.output, h.size, fun k hk => h.block k (Nat.lt_of_lt_of_le hk hw.size) fun hS => by have := hs k hS; omega⟩
theorem Fr.row {S : Nat → Prop} {a b : World} (h : Fr S a b) {k : Nat} {o : Obj} (hk : a.heap[k]? = some o) (hs : ¬ S k) : b.heap[k]? = some o := by
  have hl : k < a.heap.size := by
    rcases Nat.lt_or_ge k a.heap.size with h1 | h1
    · exact h1
    · rw [Array.getElem?_eq_none h1] at hk; cases hk
  exact (h.block k hl hs).trans hk
theorem Fr.cell {S : Nat → Prop} {a b : World} (h : Fr S a b) {p : Addr} {u : Value} (hk : a.cell? p = some u) (hs : ¬ S p.block) : b.cell? p = some u := by
  obtain ⟨q, o, sp⟩ := p
  have hsp : sp = none := by simpa using World.cell?_spot hk
  subst hsp
  exact (World.cell?_of_block (w := a) (h.block q (cell_lt hk) hs)).trans hk
theorem Rd.fr {S : Nat → Prop} {a b : World} {A : Option Addr} {xs : List Value} (h : Rd a A xs) (f : Fr S a b) (hs : ∀ k o, A = some ⟨k, o, none⟩ → 0 < xs.length → ¬ S k) : Rd b A xs := by
  intro j u hu
  obtain ⟨k, o, rfl, hc⟩ := h j u hu
  have hj : 0 < xs.length := Nat.lt_of_le_of_lt (Nat.zero_le _) (List.getElem?_eq_some_iff.1 hu).1
  exact ⟨k, o, rfl, f.cell hc (hs k o rfl hj)⟩

/-- A Reader: where it stands, and its bytes. -/
def RdrAt (w : World) (R t : Nat) (A : Option Addr) (n c : Nat) : Prop := w.heap[R]? = some (.cells #[.int .i64 t, .slice A n c] 98 (0, 0))
structure Rdr (w : World) (R t : Nat) (A : Option Addr) (l : List UInt8) (c : Nat) : Prop where
  row : RdrAt w R t A l.length c
  rd : Rd w A (bv l)
  le : t ≤ 8 * l.length
  len : l.length < 1152921504606846976
theorem RdrAt.c0 {w : World} {R t : Nat} {A : Option Addr} {n c : Nat} (h : RdrAt w R t A n c) : w.cell? ⟨R, 0, none⟩ = some (.int .i64 t) := cell_of_row w R 0 _ _ _ h
theorem RdrAt.c1 {w : World} {R t : Nat} {A : Option Addr} {n c : Nat} (h : RdrAt w R t A n c) : w.cell? ⟨R, 1, none⟩ = some (.slice A n c) := cell_of_row w R 1 _ _ _ h
theorem RdrAt.fz {w : World} {R t : Nat} {A : Option Addr} {n c : Nat} (h : RdrAt w R t A n c) : w.frozen? ⟨R, 0, none⟩ = false := frozen_of_row w R 0 _ _ h
theorem bv_cell {l : List UInt8} {j : Nat} {u : Value} (h : (bv l)[j]? = some u) : ∃ x : Nat, u = .int .u8 x := by
  obtain ⟨hj, rfl⟩ := List.getElem?_eq_some_iff.1 h
  exact ⟨l[j]'(by simpa [bv] using hj) |>.toNat, by simp [bv]⟩
/-- Bytes do not lie in a Reader's own block. -/
theorem Rdr.apart {w : World} {R t : Nat} {A A' : Option Addr} {n c : Nat} {l : List UInt8} (h : RdrAt w R t A n c) (hr : Rd w A' (bv l)) : ∀ k o, A' = some ⟨k, o, none⟩ → 0 < (bv l).length → ¬ k = R := by
  rintro k o rfl hl rfl
  obtain ⟨k', o', e, hc⟩ := hr 0 (bv l)[0] (List.getElem?_eq_getElem hl)
  injection e with e; injection e with e1 e2; subst e1 e2
  obtain ⟨x, hx⟩ := bv_cell (l := l) (List.getElem?_eq_getElem hl)
  rw [hx] at hc
  have hr2 := cell_of_row w k (o + 0) _ _ _ h
  rw [hr2] at hc
  match o, hc with
  | 0, hc => simp at hc
  | 1, hc => simp at hc
  | o + 2, hc => simp at hc
theorem Rdr.keep {S : Nat → Prop} {w w' : World} {R t : Nat} {A : Option Addr} {l : List UInt8} {c : Nat} (h : Rdr w R t A l c) (f : Fr S w w') (hR : ¬ S R) (hA : ∀ k o, A = some ⟨k, o, none⟩ → 0 < (bv l).length → ¬ S k) : Rdr w' R t A l c :=
  ⟨f.row h.row hR, h.rd.fr f hA, h.le, h.len⟩
theorem Rdr.below {w w' : World} {R t : Nat} {A : Option Addr} {l : List UInt8} {c : Nat} (h : Rdr w R t A l c) (b : Below w.heap.size w w') : Rdr w' R t A l c :=
  ⟨(Fr.of (S := fun _ => False) b).row h.row id, h.rd.below b, h.le, h.len⟩
/-- A Reader beside one that turns. -/
theorem Rdr.beside {w w' : World} {R t R' t' : Nat} {A A' : Option Addr} {l l' : List UInt8} {c c' : Nat} (h : Rdr w R t A l c) (h' : Rdr w R' t' A' l' c') (hne : R ≠ R') (f : Fr (· = R') w w') : Rdr w' R t A l c :=
  h.keep f hne (Rdr.apart h'.row h.rd)
/-- The Reader that is moved. -/
theorem Rdr.moved {w : World} {R t : Nat} {A : Option Addr} {l : List UInt8} {c : Nat} (h : Rdr w R t A l c) {w' : World} (f : Fr (· = R) w w') {t' : Nat} (h' : RdrAt w' R t' A l.length c) (hle : t' ≤ 8 * l.length) : Rdr w' R t' A l c :=
  ⟨h', h.rd.fr f (Rdr.apart h.row h.rd), hle, h.len⟩
end Go.Proofs.YtgohfbfdhdepnaaDoor

namespace Go.Proofs.YtgohfbfdhdepnaaDoor
open Go.RowKit

/-- append of ONE element onto a row of the call's own, the element in a block that is known whole: for a region that draws. -/
theorem wp_app1 {P : Program} {w0 W : World} {o : Oper} {a : Act} {K : Act → World → Prop} {Q : Exit → Act → World → Prop} (s x : Operand) (t : TypeId)
    (ho : o.op = .call { callee := .builtin .append, args := #[s, x], argTypes := #[t, t] })
    {base : Nat} {e : TypeId} {z : Value} {size bytes : Nat} (ht : P.underlying t = some (.slice e)) (hi : (P.info? e).map (fun i => (i.zero, i.size, i.bytes)) = some (some z, size, bytes)) (hzs : z.cells.size = size) (hsz : 0 < size)
    {v : Value} {n : Nat} {xs : List Value} (hs : a.eval s = v) (hown : W.ownsRow base e size v n xs) (hB : w0.heap.size ≤ base) (hbW : base ≤ W.heap.size) (hb : Below w0.heap.size w0 W)
    {arr : Array Value} {H : Nat} {t' : TypeId} (hx : a.eval x = .slice (some ⟨H, 0, none⟩) 1 1) (hblk : W.heap[H]? = some (.cells arr t' (0, 0))) (hl : arr.size = size) (h1 : ∀ u ∈ arr.toList, u.oneCell' = true)
    (hbytes : (n + 1) * bytes ≤ 140737488355328) (h63 : n + 1 ≤ maxLen)
    (h : ∀ v' w1, w1.ownsRow base e size v' (n + 1) (xs ++ arr.toList) → Below w0.heap.size w0 w1 → base ≤ w1.heap.size → K (a.put o.dst v') w1) :
    o.wp P a W K Q := by
  obtain ⟨i, hi, hz0, hz1, hz2⟩ := info_parts hi
  refine wp_append_own W s x t ho base e i z size bytes ht hi hz0 hz1 hz2 hzs hsz v n xs hs hown ⟨H, 0, none⟩ 1 1 arr.toList hx (by simp [hl]) (World.news_of_block hblk) h1 h63 hbytes hbW ?_
  intro v' w1 hown1 hgrow _
  refine h v' w1 hown1 (hb.grown hgrow (by omega) ?_) (by have := hgrow.size; omega)
  intro k hk
  have := (hown.lt k hk).1
  omega
theorem step_app1 {P : Program} {w0 W : World} {ops : Array Oper} {o : Oper} {a : Act} {K : Act → World → Prop} {Q : Exit → Act → World → Prop} {E : Prop} (hgd : o.guard = none) (s x : Operand) (t : TypeId)
    (ho : o.op = .call { callee := .builtin .append, args := #[s, x], argTypes := #[t, t] })
    {base : Nat} {e : TypeId} {z : Value} {size bytes : Nat} (ht : P.underlying t = some (.slice e)) (hi : (P.info? e).map (fun i => (i.zero, i.size, i.bytes)) = some (some z, size, bytes)) (hzs : z.cells.size = size) (hsz : 0 < size)
    {v : Value} {n : Nat} {xs : List Value} (hs : a.eval s = v) (hown : W.ownsRow base e size v n xs) (hB : w0.heap.size ≤ base) (hbW : base ≤ W.heap.size) (hb : Below w0.heap.size w0 W)
    {arr : Array Value} {H : Nat} {t' : TypeId} (hx : a.eval x = .slice (some ⟨H, 0, none⟩) 1 1) (hblk : W.heap[H]? = some (.cells arr t' (0, 0))) (hl : arr.size = size) (h1 : ∀ u ∈ arr.toList, u.oneCell' = true)
    (hbytes : (n + 1) * bytes ≤ 140737488355328) (h63 : n + 1 ≤ maxLen)
    (h : ∀ v' w1, w1.ownsRow base e size v' (n + 1) (xs ++ arr.toList) → Below w0.heap.size w0 w1 → base ≤ w1.heap.size → K (a.put o.dst v') w1) :
    if Region.wanted o (yielded ops a.tmps) = true then Oper.wp P o a W K Q else E := by
  have hw : Region.wanted o (yielded ops a.tmps) = true := by simp [Region.wanted, hgd]
  rw [if_pos hw]
  exact wp_app1 s x t ho ht hi hzs hsz hs hown hB hbW hb hx hblk hl h1 hbytes h63 h

theorem ofInt_u8 (a : Nat) (ha : a < 256) : (BitVec.ofInt 8 (a : Int)).toNat = a := by
  rw [BitVec.ofInt_natCast, BitVec.toNat_ofNat]; exact Nat.mod_eq_of_lt (by omega)
theorem u8_xor_nat (a b : Nat) (ha : a < 256) (hb : b < 256) : bits .xor .u8 (a : Int) (b : Int) = ((a ^^^ b : Nat) : Int) := by
  have hx : a ^^^ b < 2 ^ 8 := Nat.xor_lt_two_pow (by omega) (by omega)
  show IntKind.u8.wrap ((BitVec.ofInt 8 (a : Int) ^^^ BitVec.ofInt 8 (b : Int)).toNat : Int) = _
  rw [BitVec.toNat_xor, ofInt_u8 a ha, ofInt_u8 b hb]
  simp only [IntKind.wrap, IntKind.bits, IntKind.signed]
  simp
  omega
theorem one_u8 (n : Int) : ∀ u ∈ (#[Value.int .u8 n]).toList, u.oneCell' = true := one_int _ _
theorem Rd.src {w : World} {A : Option Addr} {xs : List Value} (h : Rd w A xs) (hpos : 0 < xs.length) : ∃ ad, A = some ad ∧ ∀ j v, xs[j]? = some v → w.cell? (ad.add j) = some v := by
  obtain ⟨b, o, rfl, _⟩ := h.at_ hpos
  refine ⟨_, rfl, fun j v hv => ?_⟩
  obtain ⟨b', o', e, hcell⟩ := h j v hv
  simp at e
  obtain ⟨rfl, rfl⟩ := e
  rw [show (⟨b, o, none⟩ : Addr).add j = ⟨b, o + j, none⟩ from by unfold Addr.add; split <;> simp_all]
  exact hcell
/-- A bit of a number, as the walk reckons it. -/
theorem and_one_int (d k : Nat) (hd : d < 9223372036854775808) : bits .and .i64 ((d : Int) / 2 ^ k) 1 = ((d / 2 ^ k % 2 : Nat) : Int) := by
  have e := i64_and_nat (d / 2 ^ k) 1 (Nat.lt_of_le_of_lt (Nat.div_le_self _ _) hd) (by omega)
  rw [Nat.and_one_is_mod] at e
  rw [show ((d : Int) / 2 ^ k) = ((d / 2 ^ k : Nat) : Int) from by simp]
  exact e
theorem free_blk {w : World} {g : Nat} {cs : Array Value} {t : TypeId} (h : w.heap[g]? = some (.cells cs t (0, 0))) (i : Nat) : w.frozen? ⟨g, i, none⟩ = false := by
  simp [World.frozen?, h]
end Go.Proofs.YtgohfbfdhdepnaaDoor

namespace Go.Proofs.YtgohfbfdhdepnaaDoor
open Go.RowKit

theorem Rd.srcAt {w : World} {A : Option Addr} {xs : List Value} (h : Rd w A xs) (hpos : 0 < xs.length) : ∃ ad, A = some ad ∧ ∀ j v, xs[j]? = some v → w.cell? (ad.add j) = some v := by
  obtain ⟨b, o, rfl, _⟩ := h.at_ hpos
  refine ⟨_, rfl, fun j v hv => ?_⟩
  obtain ⟨b', o', e, hcell⟩ := h j v hv
  simp at e
  obtain ⟨rfl, rfl⟩ := e
  rw [show (⟨b, o, none⟩ : Addr).add j = ⟨b, o + j, none⟩ from by unfold Addr.add; split <;> simp_all]
  exact hcell

/-- append of a slice (nil, empty or not) onto a row of the call's own. -/
theorem appN {P : Program} {w0 W : World} {ops : Array Oper} {rest : List Oper} {o : Oper} {a : Act} {Q : Exit → Act → World → Prop} (hgd : o.guard = none) (s x : Operand) (t : TypeId)
    (ho : o.op = .call { callee := .builtin .append, args := #[s, x], argTypes := #[t, t] })
    {base : Nat} {e : TypeId} {z : Value} {bytes : Nat} (ht : P.underlying t = some (.slice e)) (hi : (P.info? e).map (fun i => (i.zero, i.size, i.bytes)) = some (some z, 1, bytes)) (hzs : z.cells.size = 1)
    {v : Value} {n : Nat} {xs : List Value} (hs : a.eval s = v) (hown : W.ownsRow base e 1 v n xs) (hB : w0.heap.size ≤ base) (hbW : base ≤ W.heap.size) (hb : Below w0.heap.size w0 W)
    {A : Option Addr} {m c : Nat} {ys : List Value} (hx : a.eval x = .slice A m c) (hr : Rd W A ys) (hl : ys.length = m) (hnil : A = none → c = 0) (h1 : ∀ u ∈ ys, u.oneCell' = true)
    (hbytes : (n + m) * bytes ≤ 140737488355328) (h63 : n + m ≤ maxLen)
    (h : ∀ v' w1, w1.ownsRow base e 1 v' (n + m) (xs ++ ys) → Below w0.heap.size w0 w1 → base ≤ w1.heap.size → (v' = .slice none 0 0 ↔ v = .slice none 0 0 ∧ m = 0) → wpList P ops Q rest (a.put o.dst v') w1) :
    wpList P ops Q (o :: rest) a W := by
  obtain ⟨i, hi, hz0, hz1, hz2⟩ := info_parts hi
  cases A with
  | none =>
    have hm : ys = [] := by
      cases ys with
      | nil => rfl
      | cons y l => obtain ⟨_, _, e, _⟩ := hr 0 y rfl; cases e
    subst hm
    obtain rfl : m = 0 := by simpa using hl.symm
    rw [hnil rfl] at hx
    refine wpList_append_own_none hgd s x t ho base e i 1 ht hi v n xs hs hown hx ?_
    exact h v W (by simpa using hown) hb hbW (by simp)
  | some ad =>
    refine wpList_append_own W hgd s x t ho base e i z 1 bytes ht hi hz0 hz1 hz2 hzs (by decide) v n xs hs hown ad m c ys hx (by omega) ?_ h1 h63 hbytes hbW ?_
    · intro j u hu
      obtain ⟨b, o, e, hc⟩ := hr j u hu
      injection e with e
      subst e
      rw [show (⟨b, o, none⟩ : Addr).add j = ⟨b, o + j, none⟩ from by unfold Addr.add; split <;> simp_all]
      exact hc
    · intro v' w1 hown1 hgrow hnil
      refine h v' w1 hown1 (hb.grown hgrow (by omega) ?_) (by have := hgrow.size; omega) hnil
      intro k hk
      have := (hown.lt k hk).1
      omega
theorem ownsRow_less {w : World} {b b' : Nat} {e : TypeId} {size n : Nat} {v : Value} {xs : List Value} (h : w.ownsRow b e size v n xs) (hb : b' ≤ b) : w.ownsRow b' e size v n xs := by
  refine ⟨h.1, ?_⟩
  rcases h.2 with h | ⟨g, cap, cur, h1, h2, h3⟩
  · exact .inl h
  · exact .inr ⟨g, cap, cur, h1, by omega, h3⟩
theorem ownsRow_below {w w' : World} {base : Nat} {e : TypeId} {size n : Nat} {v : Value} {xs : List Value} (h : w.ownsRow base e size v n xs) (hb : Below w.heap.size w w') : w'.ownsRow base e size v n xs := by
  refine ⟨h.1, ?_⟩
  rcases h.2 with hn | ⟨g, cap, cur, rfl, hg, hgg, rest⟩
  · exact .inl hn
  · refine .inr ⟨g, cap, cur, rfl, hg, ?_, rest⟩
    rw [hb.block g (Array.getElem?_eq_some_iff.1 hgg).1]; exact hgg
theorem own_nilcap {w : World} {base : Nat} {e : TypeId} {v : Value} {n : Nat} {xs : List Value} (h : w.ownsRow base e 1 v n xs) :
    ∃ A c, v = .slice A n c ∧ n ≤ c ∧ Rd w A xs ∧ (A = none → c = 0) := by
  obtain ⟨A, c, rfl, hc, hr⟩ := own_rd h
  refine ⟨A, c, rfl, hc, hr, ?_⟩
  rintro rfl
  rcases h.2 with ⟨e, -⟩ | ⟨g, cap, cur, e, -⟩
  · injection e
  · injection e with e1 e2 e3; cases e1
end Go.Proofs.YtgohfbfdhdepnaaDoor

namespace Go.Proofs.YtgohfbfdhdepnaaDoor
open Go.RowKit

theorem info_u8 : (Tryd.prog.info? 5).map (fun i => (i.zero, i.size, i.bytes)) = some (some (.int .u8 0), 1, 1) := by kernel_rfl
theorem bv_one (l : List UInt8) : ∀ u ∈ bv l, u.oneCell' = true := by
  intro u hu
  obtain ⟨x, -, rfl⟩ := List.mem_map.1 hu
  rfl
set_option maxHeartbeats 400000 in
theorem clone_nil (w : World) : Calls Tryd.prog 54 #[.slice none 0 0] w fun e w' => e = .returned (.slice none 0 0) ∧ w' = w := by
  have hq := Go.Lib.run_eql_slice_nil (P := Tryd.prog) w 28 5 none 0 0 0 0 Tryd.underlying28
  go_enter Tryd.func54, Tryd.ntmps54
  go_wp2_with fail
  go_ret
  exact ⟨rfl, rfl⟩
set_option maxHeartbeats 400000 in
theorem clone_some (ys : List Value) (n : Nat) (hyl : ys.length = n) (hone : ∀ u ∈ ys, u.oneCell' = true) (ad : Addr) (c : Nat) (w : World) (hr : Rd w (some ad) ys) (hl : n ≤ 140737488355328) :
    Calls Tryd.prog 54 #[.slice (some ad) n c] w fun e w' => ∃ v, e = .returned v ∧ Hid (w'.ownsRow w.heap.size 5 1 v n ys) ∧ Below w.heap.size w w' := by
  have Hr := Lib.hid hr; clear hr
  have Hvl := Lib.hid hyl; clear hyl
  have Hone := Lib.hid hone; clear hone
  have hq := Go.Lib.run_eql_slice_nil (P := Tryd.prog) w 28 5 (some ad) n c 0 0 Tryd.underlying28
  go_enter Tryd.func54, Tryd.ntmps54
  go_upto_region 3 with fail
  apply wp_region_lit
  go_step
  go_step
  have Hown : Hid ((w.alloc (.cells #[] 5)).ownsRow w.heap.size 5 1 (.slice (some ⟨w.heap.size, 0, none⟩) 0 0) 0 []) := ⟨rfl, .inr ⟨w.heap.size, 0, #[], rfl, Nat.le_refl _, heap_alloc_last w _, Nat.le_refl _, by decide, rfl, rfl⟩⟩
  go_wp2_with (at_builtin; refine appN (w0 := w) (base := w.heap.size) rfl _ _ 28 rfl Tryd.underlying28 info_u8 rfl rfl Hown.out (Nat.le_refl _) (by simp) (by repeat (first | exact Below.refl _ _ | assumption | refine below_drewN ?_ _ | refine Below.drew ?_ | refine Below.alloc ?_ (Nat.le_refl _) _ | refine bal ?_ _ | refine bnext ?_ (by assumption))) rfl (Hr.out.alloc _) Hvl.out (fun h => by cases h) Hone.out (by omega) (by unfold maxLen; omega) ?_; intro v1 w6 own1 hb6 hs6 hnil6; have Hown1 := Lib.hid own1; have Hb6 := Lib.hid hb6; clear own1 hb6 hnil6)
  go_ret
  refine ⟨_, rfl, ?_, Hb6.out⟩
  have h := Hown1.out
  rw [Nat.zero_add, List.nil_append] at h
  exact h
theorem own_rd4 {w : World} {base : Nat} {e : TypeId} {v : Value} {n : Nat} {xs : List Value} (h : w.ownsRow base e 1 v n xs) :
    ∃ A c, v = .slice A n c ∧ n ≤ c ∧ c ≤ 9223372036854775807 ∧ Rd w A xs ∧ (A = none → n = 0 ∧ c = 0) := by
  obtain ⟨A, c, rfl, hc, hr⟩ := own_rd h
  refine ⟨A, c, rfl, hc, ?_, hr, ?_⟩
  · rcases h.2 with ⟨e, hn⟩ | ⟨g, cap, cur, e, hb, hg, hn, hm, hs, ht⟩
    · injection e with e1 e2 e3; omega
    · injection e with e1 e2 e3; subst e3; unfold maxLen at hm; omega
  · rintro rfl
    rcases h.2 with ⟨e, hn⟩ | ⟨g, cap, cur, e, hb, hg, hn, hm, hs, ht⟩
    · injection e with e1 e2 e3; exact ⟨e2, e3⟩
    · injection e with e1 e2 e3; cases e1
theorem clone_any (l : List UInt8) (A : Option Addr) (c : Nat) (w : World) (hr : Rd w A (bv l)) (hl : l.length ≤ 140737488355328) (hn : A = none → l.length = 0 ∧ c = 0) :
    Calls Tryd.prog 54 #[.slice A l.length c] w fun e w' => ∃ v, e = .returned v ∧ Hid (w'.ownsRow w.heap.size 5 1 v l.length (bv l)) ∧ Below w.heap.size w w' := by
  cases A with
  | none =>
    obtain ⟨h1, rfl⟩ := hn rfl
    obtain rfl := List.eq_nil_of_length_eq_zero h1
    refine (clone_nil w).mono ?_
    rintro e w' ⟨rfl, rfl⟩
    exact ⟨_, rfl, World.ownsRow_nil _ _ _ 1, Below.refl _ _⟩
  | some ad => exact clone_some (bv l) l.length (by simp [bv]) (bv_one _) ad c w hr hl
end Go.Proofs.YtgohfbfdhdepnaaDoor

namespace Go.Proofs.YtgohfbfdhdepnaaDoor
open Go.RowKit

set_option maxHeartbeats 400000 in
theorem NewReader_any (l : List UInt8) (A : Option Addr) (c : Nat) (w : World) (hr : Rd w A (bv l)) (hl : l.length ≤ 140737488355328) (hn : A = none → l.length = 0 ∧ c = 0) :
    Calls Tryd.prog 44 #[.slice A l.length c] w fun e w' => ∃ R A' c', e = .returned (.pointer (some ⟨R, 0, none⟩)) ∧ Rdr w' R 0 A' l c' ∧ w.heap.size ≤ R ∧ R < w'.heap.size ∧ Below w.heap.size w w' := by
  have HC := Lib.hid (clone_any l A c w hr hl hn)
  have Hl : Hid (l.length < 1152921504606846976) := by show _ < _; omega
  clear hr hn
  generalize hll : l.length = n at *
  go_enter Tryd.func44, Tryd.ntmps44
  go_wp2_with fail
  refine HC.out.mono ?_
  rintro e w1 ⟨v, rfl, Hown, hb⟩
  obtain ⟨A', c', rfl, hcc, -, hrd, -⟩ := own_rd4 Hown.out
  have Hrd := Lib.hid hrd
  clear hrd Hown HC
  go_wp2_with fail
  go_ret
  refine ⟨w1.heap.size, A', c', rfl, ⟨?_, Hrd.out.alloc _, by omega, by rw [hll]; exact Hl.out⟩, hb.size, by simp, bal hb _⟩
  rw [hll]
  exact heap_alloc_last w1 _

set_option maxHeartbeats 400000 in
theorem Left_any (R t : Nat) (A : Option Addr) (n c : Nat) (w : World) (hr : RdrAt w R t A n c) (ht : t ≤ 8 * n) (hn : n < 1152921504606846976) :
    Calls Tryd.prog 65 #[.pointer (some ⟨R, 0, none⟩)] w fun e w' => e = .returned (.int .i64 (8 * n - t)) ∧ Below w.heap.size w w' := by
  have h0 := hr.c0
  have h1 := hr.c1
  clear hr
  have hw1 : IntKind.i64.wrap ((n : Int) * 8) = (n : Int) * 8 := by rw [IntKind.wrap_i64]; omega
  have hw2 : IntKind.i64.wrap ((n : Int) * 8 - t) = (n : Int) * 8 - t := by rw [IntKind.wrap_i64]; omega
  go_enter Tryd.func65, Tryd.ntmps65
  go_wp2_with fail
  go_quiet (fail)
  go_wp2_with fail
  go_ret
  exact ⟨ret_int (by omega), by repeat (first | exact Below.refl _ _ | assumption | refine below_drewN ?_ _ | refine Below.drew ?_ | refine Below.alloc ?_ (Nat.le_refl _) _ | refine bal ?_ _ | refine bnext ?_ (by assumption))⟩
theorem At_any (R t : Nat) (A : Option Addr) (n c : Nat) (w : World) (hr : RdrAt w R t A n c) :
    Calls Tryd.prog 50 #[.pointer (some ⟨R, 0, none⟩)] w fun e w' => e = .returned (.int .i64 t) ∧ Below w.heap.size w w' := by
  have h0 := hr.c0
  clear hr
  go_enter Tryd.func50, Tryd.ntmps50
  go_wp2_with fail
  go_ret
  exact ⟨rfl, Below.refl _ _⟩

/-- The row of a Reader behind a store into its place. -/
theorem RdrAt.set {w : World} {R t : Nat} {A : Option Addr} {n c : Nat} (h : RdrAt w R t A n c) (t' : Nat) : RdrAt (w.setCell ⟨R, 0, none⟩ (.int .i64 t')) R t' A n c :=
  heap_setCell_same w R 0 _ _ (.int .i64 t') h
set_option maxHeartbeats 400000 in
theorem Seek_any (R t : Nat) (A : Option Addr) (l : List UInt8) (c : Nat) (at' : Int) (w : World) (hr : Rdr w R t A l c) :
    Calls Tryd.prog 47 #[.pointer (some ⟨R, 0, none⟩), .int .i64 at'] w fun e w' =>
      e = .returned (.int .i64 (if at' < 0 ∨ 8 * (l.length : Int) < at' then 10 else 0)) ∧ Rdr w' R (if at' < 0 ∨ 8 * (l.length : Int) < at' then t else at'.toNat) A l c ∧ Fr (· = R) w w' := by
  have h0 := hr.row.c0
  have h1 := hr.row.c1
  have hn := hr.len
  have hfz := hr.row.fz
  have hw1 : IntKind.i64.wrap ((l.length : Int) * 8) = (l.length : Int) * 8 := by rw [IntKind.wrap_i64]; omega
  have Hr := Lib.hid hr
  clear hr
  by_cases hc : at' < 0 ∨ 8 * (l.length : Int) < at'
  · rw [if_pos hc, if_pos hc]
    by_cases h2 : at' < 0
    · clear hc
      generalize hll : l.length = n at *
      go_enter Tryd.func47, Tryd.ntmps47
      go_wp2_with fail
      go_ret
      exact ⟨rfl, Hr.out, Fr.refl _ _⟩
    · have h3 : at' > (l.length : Int) * 8 := by omega
      clear hc
      generalize hll : l.length = n at *
      go_enter Tryd.func47, Tryd.ntmps47
      go_wp2_with fail
      go_ret
      exact ⟨rfl, Hr.out, Fr.refl _ _⟩
  · rw [if_neg hc, if_neg hc]
    obtain ⟨p, rfl⟩ : ∃ p : Nat, at' = p := ⟨at'.toNat, by omega⟩
    have h2 : ¬ (p : Int) < 0 := by omega
    have h3 : ¬ (p : Int) > (l.length : Int) * 8 := by omega
    have hp : p ≤ 8 * l.length := by omega
    clear hc
    generalize hll : l.length = n at *
    go_enter Tryd.func47, Tryd.ntmps47
    go_wp2_with fail
    go_ret
    have f : Fr (· = R) w (w.setCell ⟨R, 0, none⟩ (.int .i64 p)) := (Fr.refl _ _).put 0 _
    exact ⟨rfl, Hr.out.moved f (Hr.out.row.set p) (by omega), f⟩

set_option maxHeartbeats 400000 in
theorem rest_any (p : Nat) (hp : p < 9223372036854775808) (w : World) :
    Calls Tryd.prog 63 #[.agg #[.int .i64 p]] w fun e w' => e = .returned (.int .i64 (((8 - p % 8) % 8 : Nat) : Int)) ∧ Below w.heap.size w w' := by
  obtain ⟨s, hs⟩ : ∃ s : Nat, p % 8 = s := ⟨_, rfl⟩
  have hs8 : s < 8 := by omega
  have hm : (p : Int) % 8 = s := by omega
  rw [hs]
  have hw : ((8 : Int) - s) % 8 = (((8 - s) % 8 : Nat) : Int) := by omega
  clear hs
  go_enter Tryd.func63, Tryd.ntmps63
  go_wp2_with fail
  go_ret
  exact ⟨ret_int (by omega), by repeat (first | exact Below.refl _ _ | assumption | refine below_drewN ?_ _ | refine Below.drew ?_ | refine Below.alloc ?_ (Nat.le_refl _) _ | refine bal ?_ _ | refine bnext ?_ (by assumption))⟩
end Go.Proofs.YtgohfbfdhdepnaaDoor

namespace Go.Proofs.YtgohfbfdhdepnaaDoor
open Go.RowKit

def tkE (n : Int) (left : Nat) : Int := if n < 0 ∨ 48 < n then 1 else if (left : Int) < n then 11 else 0
def tkV (l : List UInt8) (t : Nat) (n : Int) : Nat := if tkE n (8 * l.length - t) = 0 then sg (bitAt l) t n.toNat else 0
def tkT (l : List UInt8) (t : Nat) (n : Int) : Nat := if tkE n (8 * l.length - t) = 0 then t + n.toNat else t

theorem pow8 (k : Nat) (hk : k ≤ 8) : 1 ≤ 2 ^ k ∧ 2 ^ k ≤ 256 := by
  match k, hk with
  | 0, _ => decide
  | 1, _ => decide
  | 2, _ => decide
  | 3, _ => decide
  | 4, _ => decide
  | 5, _ => decide
  | 6, _ => decide
  | 7, _ => decide
  | 8, _ => decide
  | k + 9, h => omega
theorem wrap_nat (K : Nat) (h : K < 9223372036854775808) : wrap64 ((K : Nat) : Int) = K := by unfold wrap64; omega
theorem wrap_less (K : Nat) (h1 : 1 ≤ K) (h : K < 9223372036854775808) : wrap64 ((K : Int) - 1) = ((K - 1 : Nat) : Int) := by unfold wrap64; omega
/-- A step of Take: the bits of one byte behind what was read. -/
theorem take_step (V x r k j : Nat) (hV : V < 2 ^ j) (hj : j + k ≤ 48) (hk : k ≤ 8) (hx : x < 256) :
    bits .or .i64 (wrap64 ((V : Int) * 2 ^ k)) (bits .and .i64 ((x : Int) / 2 ^ r) (wrap64 (wrap64 (2 ^ k) - 1))) = ((V * 2 ^ k + x / 2 ^ r % 2 ^ k : Nat) : Int) := by
  obtain ⟨h1, h2⟩ := pow8 k hk
  have h3 : V * 2 ^ k < 281474976710656 := by
    have h4 : V * 2 ^ k < 2 ^ j * 2 ^ k := Nat.mul_lt_mul_of_pos_right hV (by omega)
    rw [← Nat.pow_add] at h4
    exact Nat.lt_of_lt_of_le h4 (Nat.pow_le_pow_right (n := 2) (by omega) hj)
  have e1 : ((2 : Int) ^ k) = ((2 ^ k : Nat) : Int) := by simp
  have e2 : ((2 : Int) ^ r) = ((2 ^ r : Nat) : Int) := by simp
  have e3 : ((x : Int) / ((2 ^ r : Nat) : Int)) = ((x / 2 ^ r : Nat) : Int) := by simp
  have e4 : (V : Int) * ((2 ^ k : Nat) : Int) = ((V * 2 ^ k : Nat) : Int) := by simp
  have h6 : x / 2 ^ r ≤ x := Nat.div_le_self _ _
  have h5 := Nat.mod_lt (x / 2 ^ r) (show 2 ^ k > 0 by omega)
  have e7 : (x / 2 ^ r) &&& (2 ^ k - 1) = x / 2 ^ r % 2 ^ k := Nat.and_two_pow_sub_one_eq_mod _ _
  have e8 : V * 2 ^ k ||| x / 2 ^ r % 2 ^ k = V * 2 ^ k + x / 2 ^ r % 2 ^ k := by
    rw [Nat.mul_comm]; exact (Nat.two_pow_add_eq_or_of_lt h5 V).symm
  rw [e1, e2, e3, e4]
  clear e1 e2 e3 e4 hV
  generalize 2 ^ k = K at *
  generalize x / 2 ^ r = y at *
  generalize hM : V * K = M at *
  have b1 : K - 1 < 9223372036854775808 := by clear e7 e8 h5 hM; omega
  have b2 : y % K < 9223372036854775808 := Nat.lt_trans h5 (by clear e7 e8 h5 hM; omega)
  have b3 : y < 9223372036854775808 := by clear e7 e8 h5 hM; omega
  have b4 : M < 9223372036854775808 := by clear e7 e8 h5 hM; omega
  rw [wrap_nat M b4, wrap_nat K (by clear e7 e8 h5 hM; omega), wrap_less K h1 (by clear e7 e8 h5 hM; omega), i64_and_nat y (K - 1) b3 b1, e7, i64_or_nat M (y % K) b4 b2, e8]
theorem RdrAt.drewN {w : World} {R t : Nat} {A : Option Addr} {n c : Nat} (h : RdrAt w R t A n c) (q : Nat) : RdrAt (w.drewN q) R t A n c :=
  (Fr.of (S := fun _ => False) (below_drewN (Below.refl _ _) q)).row h id

set_option maxHeartbeats 400000 in
theorem Take_no (R t : Nat) (A : Option Addr) (l : List UInt8) (c : Nat) (n : Int) (w : World) (hr : Rdr w R t A l c) (hE : tkE n (8 * l.length - t) ≠ 0) :
    Calls Tryd.prog 62 #[.pointer (some ⟨R, 0, none⟩), .int .i64 n] w fun e w' => e = .returned (.tuple #[.int .i64 0, .int .i64 (tkE n (8 * l.length - t))]) ∧ Below w.heap.size w w' := by
  have hL := Lib.hid (Left_any R t A l.length c w hr.row hr.le hr.len)
  have hle := hr.le
  by_cases h1 : n < 0
  · have HE : Hid (tkE n (8 * l.length - t) = 1) := if_pos (.inl h1)
    rw [HE.out]
    go_enter Tryd.func62, Tryd.ntmps62
    go_wp2_with fail
    go_ret2
    exact ⟨rfl, Below.refl _ _⟩
  · by_cases h2 : n > 48
    · have HE : Hid (tkE n (8 * l.length - t) = 1) := if_pos (.inr h2)
      rw [HE.out]
      go_enter Tryd.func62, Tryd.ntmps62
      go_wp2_with fail
      go_ret2
      exact ⟨rfl, Below.refl _ _⟩
    · have HE : Hid (tkE n (8 * l.length - t) = if ((8 * l.length - t : Nat) : Int) < n then 11 else 0) := if_neg (by omega)
      have h3 : n > 8 * (l.length : Int) - t := by
        rw [HE.out] at hE
        split at hE
        · omega
        · exact absurd rfl hE
      have HE2 : Hid (tkE n (8 * l.length - t) = 11) := by show _ = _; rw [HE.out, if_pos (by omega)]
      rw [HE2.out]
      clear hE
      generalize l.length = m at *
      go_enter Tryd.func62, Tryd.ntmps62
      go_wp2_with fail
      refine hL.out.mono ?_
      rintro e w1 ⟨rfl, hb⟩
      go_wp2_with fail
      go_ret2
      exact ⟨rfl, hb⟩

set_option maxRecDepth 100000 in
set_option maxHeartbeats 2000000 in
theorem Take_ok (R t : Nat) (A : Option Addr) (l : List UInt8) (c : Nat) (n : Nat) (w : World) (hr : Rdr w R t A l c) (hn : n ≤ 48) (hnl : t + n ≤ 8 * l.length) :
    Calls Tryd.prog 62 #[.pointer (some ⟨R, 0, none⟩), .int .i64 n] w fun e w' => e = .returned (.tuple #[.int .i64 (sg (bitAt l) t n : Nat), .int .i64 0]) ∧ Rdr w' R (t + n) A l c ∧ Fr (· = R) w w' := by
  have hL := Lib.hid (Left_any R t A l.length c w hr.row hr.le hr.len)
  have Hr := Lib.hid hr
  have hlen := hr.len
  have h1 : ¬ (n : Int) < 0 := by omega
  have h2 : ¬ (n : Int) > 48 := by omega
  have h3 : ¬ (n : Int) > 8 * (l.length : Int) - t := by omega
  have Hsg : Hid (∀ p k, p % 8 + k ≤ 8 → sg (bitAt l) p k = (l.getD (p / 8) 0).toNat / 2 ^ (8 - p % 8 - k) % 2 ^ k) := sg_byte l
  have Hlt : Hid (∀ j, sg (bitAt l) t j < 2 ^ j) := sg_lt (bitAt_lt l) t
  have Hadd : Hid (∀ a b, sg (bitAt l) t (a + b) = sg (bitAt l) t a * 2 ^ b + sg (bitAt l) (t + a) b) := sg_add (bitAt l) t
  have H0 : Hid (sg (bitAt l) t 0 = 0) := rfl
  clear hr
  generalize hf : bitAt l = f at *
  clear hf
  go_enter Tryd.func62, Tryd.ntmps62
  go_wp2_with fail
  refine hL.out.mono ?_
  rintro e w1 ⟨rfl, hb⟩
  have Hr1 := Lib.hid (Hr.out.below hb)
  clear hL
  go_wp2_with fail
  clear h1 h2 h3
  go_loopw [1, 6] (fun nv vv wr => ∃ (j q p : Nat), nv = .int .i64 (q : Int) ∧ vv = .int .i64 (sg f t j : Nat) ∧ Hid (q + j = n) ∧ Hid (t + j = p) ∧ Hid (RdrAt wr R p A l.length c) ∧ Hid (Fr (· = R) w1 wr)) (fun nv _ _ => (intOf nv).toNat)
  case atStart => exact ⟨0, n, t, rfl, by rw [H0.out]; rfl, rfl, rfl, Hr1.out.row, Fr.refl _ _⟩
  case round =>
    obtain ⟨j, q, p, rfl, rfl, Hq, Hp, Hrow, Hfr⟩ := hrel
    have h0 := Hrow.out.c0
    have h1 := Hrow.out.c1
    have hfz := Hrow.out.fz
    by_cases hqq : 0 < q
    · have hpl : p < 8 * l.length := by have := Hp.out; have := Hq.out; omega
      obtain ⟨d, hd⟩ : ∃ d, p / 8 = d := ⟨_, rfl⟩
      obtain ⟨s, hs⟩ : ∃ s, p % 8 = s := ⟨_, rfl⟩
      have hdl : d < l.length := by omega
      have hs8 : s < 8 := by omega
      obtain ⟨b, o, hA, hc⟩ := (Hr1.out.rd.fr Hfr.out (Rdr.apart Hr1.out.row Hr1.out.rd)) d (.int .u8 (l.getD d 0).toNat) (by rw [bv_get l d hdl]; simp [List.getD_eq_getElem?_getD, List.getElem?_eq_getElem hdl])
      have hx := (l.getD d 0).toNat_lt
      have hpd : (p : Int) / 8 = (d : Int) := by omega
      have hps : (p : Int) % 8 = (s : Int) := by omega
      have hj48 : j + q ≤ 48 := by have := Hq.out; omega
      have hVl := Hlt.out j
      have hd0 : (d : Int) < l.length := by omega
      subst hA
      have Hsp : Hid (∀ k, s + k ≤ 8 → sg f t (j + k) = sg f t j * 2 ^ k + (l.getD d 0).toNat / 2 ^ (8 - s - k) % 2 ^ k) := by
        intro k hk
        rw [Hadd.out, Hp.out, Hsg.out p k (by omega), hd, hs]
      obtain ⟨V, hV⟩ : ∃ V, sg f t j = V := ⟨_, rfl⟩
      rw [hV] at hVl Hsp ⊢
      clear hV
      generalize (l.getD d 0).toNat = x at *
      by_cases hq8 : q ≤ 8 - s
      · obtain ⟨r, hr⟩ : ∃ r, 8 - s - q = r := ⟨_, rfl⟩
        have hr8 : (8 : Int) - s - q = (r : Int) := by omega
        have hq9 : (q : Int) ≤ 8 - s := by omega
        have hst := take_step V x r q j hVl hj48 (by omega) hx
        have Hst : Hid (V * 2 ^ q + x / 2 ^ r % 2 ^ q = sg f t (j + q)) := by show _ = _; rw [Hsp.out q (by omega), hr]
        rw [Hst.out] at hst
        have hwp : IntKind.i64.wrap ((p : Int) + q) = (p : Int) + q := by rw [IntKind.wrap_i64]; omega
        go_upto_region 11 with fail
        go_quiet (fail)
        go_wp2_with fail
        go_roundw
        case rel => exact ⟨j + q, 0, p + q, by simp, rfl, by show _ = _; have := Hq.out; omega, by show _ = _; have := Hp.out; omega, by have h := (Hrow.out.drewN nq).set (p + q); rw [Int.natCast_add] at h; exact h, (Hfr.out.next (below_drewN (Below.refl _ _) _)).put 0 _⟩
        case measure => simp [intOf] <;> omega
      · obtain ⟨k, hk⟩ : ∃ k, 8 - s = k := ⟨_, rfl⟩
        have hk8 : (8 : Int) - s = (k : Int) := by omega
        have hq9 : ¬ (q : Int) < k := by omega
        have hq10 : (k : Int) ≤ q := by omega
        have hst := take_step V x 0 k j hVl (by omega) (by omega) hx
        rw [Int.pow_zero, Int.ediv_one] at hst
        have Hst : Hid (V * 2 ^ k + x / 2 ^ 0 % 2 ^ k = sg f t (j + k)) := by show _ = _; rw [Hsp.out k (by omega), show 8 - s - k = 0 from by omega]
        rw [Hst.out] at hst
        have hwp : IntKind.i64.wrap ((p : Int) + k) = (p : Int) + k := by rw [IntKind.wrap_i64]; omega
        go_upto_region 11 with fail
        go_quiet (fail)
        go_wp2_with fail
        go_roundw
        case rel => exact ⟨j + k, q - k, p + k, by go_num, rfl, by show _ = _; have := Hq.out; omega, by show _ = _; have := Hp.out; omega, by have h := (Hrow.out.drewN nq).set (p + k); rw [Int.natCast_add] at h; exact h, (Hfr.out.next (below_drewN (Below.refl _ _) _)).put 0 _⟩
        case measure => simp [intOf] <;> omega
    · obtain rfl : q = 0 := by omega
      have hj : j = n := by have := Hq.out; omega
      subst hj
      go_wp2_with fail
      go_ret2
      have fr : Fr (· = R) w wr := (Fr.of hb).trans Hfr.out
      exact ⟨rfl, Hr.out.moved fr (by have := Hrow.out; rw [← Hp.out] at this; exact this) hnl, fr⟩
end Go.Proofs.YtgohfbfdhdepnaaDoor

namespace Go.Proofs.YtgohfbfdhdepnaaDoor
open Go.RowKit

theorem Take_any (R t : Nat) (A : Option Addr) (l : List UInt8) (c : Nat) (n : Int) (w : World) (hr : Rdr w R t A l c) :
    Calls Tryd.prog 62 #[.pointer (some ⟨R, 0, none⟩), .int .i64 n] w fun e w' => e = .returned (.tuple #[.int .i64 (tkV l t n : Nat), .int .i64 (tkE n (8 * l.length - t))]) ∧ Rdr w' R (tkT l t n) A l c ∧ Fr (· = R) w w' := by
  by_cases hE : tkE n (8 * l.length - t) = 0
  · have hn : 0 ≤ n ∧ n ≤ 48 ∧ n ≤ 8 * l.length - t := by
      have hle := hr.le
      unfold tkE at hE
      split at hE
      · cases hE
      · split at hE
        · cases hE
        · omega
    obtain ⟨m, rfl⟩ : ∃ m : Nat, n = m := ⟨n.toNat, by omega⟩
    have hle := hr.le
    rw [tkV, tkT, if_pos hE, if_pos hE, hE, Int.toNat_natCast]
    exact Take_ok R t A l c m w hr (by omega) (by omega)
  · refine (Take_no R t A l c n w hr hE).mono ?_
    rintro e w' ⟨rfl, hb⟩
    rw [tkV, tkT, if_neg hE, if_neg hE]
    exact ⟨rfl, hr.below hb, Fr.of hb⟩

/-- What Signed reads. -/
def sgS (f : Nat → Nat) (t n : Nat) : Int := if 0 < n ∧ sg f t n / 2 ^ (n - 1) = 1 then (sg f t n : Int) - 2 ^ n else sg f t n
def sdV (l : List UInt8) (t : Nat) (n : Int) : Int := if tkE n (8 * l.length - t) = 0 then sgS (bitAt l) t n.toNat else 0
theorem pow48 (n : Nat) (h : n ≤ 48) : (1 : Int) ≤ 2 ^ n ∧ (2 : Int) ^ n ≤ 281474976710656 := by
  have h1 : (2 : Nat) ^ n ≤ 2 ^ 48 := Nat.pow_le_pow_right (by omega) h
  have h2 : 0 < (2 : Nat) ^ n := Nat.pow_pos (by omega)
  have e : ((2 : Int) ^ n) = ((2 ^ n : Nat) : Int) := by simp
  rw [e]
  have h3 : (2 : Nat) ^ 48 = 281474976710656 := by decide
  omega

end Go.Proofs.YtgohfbfdhdepnaaDoor
