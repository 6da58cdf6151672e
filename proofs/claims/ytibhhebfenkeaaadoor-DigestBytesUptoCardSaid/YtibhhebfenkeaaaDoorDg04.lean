/-
  A Digest in memory; Add.
-/
import Derived.Test.YtibhhebfenkeaaaDoorTl04
namespace Go.Proofs.YtibhhebfenkeaaaDoor
open Go.RowKit

/-- The blocks of a Digest. -/
def WS (R : Nat) (u : Value) (k : Nat) : Prop := k = R ∨ u.ownBlock = some k
structure FrW (R : Nat) (u u' : Value) (w w' : World) : Prop where
  fr : Fr (WS R u) w w'
  nxt : u'.ownBlock = u.ownBlock ∨ ∃ k, u'.ownBlock = some k ∧ w.heap.size ≤ k
theorem FrW.refl (R : Nat) (u : Value) (w : World) : FrW R u u w w := ⟨Fr.refl _ _, .inl rfl⟩
theorem FrW.of {R : Nat} {u : Value} {w w' : World} (h : Below w.heap.size w w') : FrW R u u w w' := ⟨Fr.of h, .inl rfl⟩
theorem FrW.trans {R : Nat} {u u' u2 : Value} {a b c : World} (h : FrW R u u' a b) (k : FrW R u' u2 b c) : FrW R u u2 a c := by
  refine ⟨⟨k.fr.os.trans h.fr.os, k.fr.tape.trans h.fr.tape, k.fr.output.trans h.fr.output, Nat.le_trans h.fr.size k.fr.size, fun i hi hs => ?_⟩, ?_⟩
  · refine (k.fr.block i (Nat.lt_of_lt_of_le hi h.fr.size) ?_).trans (h.fr.block i hi hs)
    rintro (h1 | h1)
    · exact hs (.inl h1)
    · rcases h.nxt with e | ⟨g, e, hg⟩
      · exact hs (.inr (e.symm.trans h1))
      · rw [e] at h1; injection h1 with h1; omega
  · rcases k.nxt with e | ⟨g, e, hg⟩
    · rcases h.nxt with e2 | ⟨g, e2, hg⟩
      · exact .inl (e.trans e2)
      · exact .inr ⟨g, e.trans e2, hg⟩
    · exact .inr ⟨g, e, Nat.le_trans h.fr.size hg⟩
theorem FrW.next {R : Nat} {u u' : Value} {a b c : World} (h : FrW R u u' a b) (k : Below b.heap.size b c) : FrW R u u' a c := h.trans (FrW.of k)
/-- A Digest: k chunks of the bytes l are taken; the others wait. -/
structure Dg (w : World) (B R k : Nat) (l : List UInt8) (z : Nat) (u : Value) : Prop where
  row : w.heap[R]? = some (.cells (stC (HH l k) ++ [u, .int .i64 z]).toArray 55 (0, 0))
  tl : Tl w B u (bv (l.drop (64 * k)))
  le : 64 * k ≤ l.length
  apart : u.ownBlock ≠ some R
  bR : B ≤ R
theorem Dg.up {w : World} {B R k z : Nat} {l : List UInt8} {u : Value} (h : Dg w B R k l z u) : ∀ b, WS R u b → B ≤ b := by
  rintro b (rfl | h1)
  · exact h.bR
  · exact (h.tl.lt b h1).1
theorem Dg.inside {w : World} {B R k z : Nat} {l : List UInt8} {u : Value} (h : Dg w B R k l z u) : R < w.heap.size := (Array.getElem?_eq_some_iff.1 h.row).1
theorem Dg.fr {S : Nat → Prop} {w w' : World} {B R k z : Nat} {l : List UInt8} {u : Value} (h : Dg w B R k l z u) (f : Fr S w w') (hs : ∀ b, WS R u b → ¬ S b) : Dg w' B R k l z u :=
  ⟨f.row h.row (hs R (.inl rfl)), h.tl.fr f (fun b hb => hs b (.inr hb)), h.le, h.apart, h.bR⟩
theorem Dg.below {w w' : World} {B R k z : Nat} {l : List UInt8} {u : Value} (h : Dg w B R k l z u) (b : Below w.heap.size w w') : Dg w' B R k l z u := h.fr (S := fun _ => False) (Fr.of b) (fun _ _ => id)
theorem FrW.under {R : Nat} {u u' : Value} {w a b : World} {B k z : Nat} {l : List UInt8} (h : FrW R u u' a b) (hw : Below w.heap.size w a) (hW : Dg a B R k l z u) (hR : w.heap.size ≤ B) : Below w.heap.size w b :=
  h.fr.below hw fun k hk => Nat.le_trans hR (hW.up k hk)
theorem Tabs.frw {R : Nat} {u u' : Value} {a b : World} {B k z : Nat} {l : List UInt8} (h : Tabs a) (f : FrW R u u' a b) (hW : Dg a B R k l z u) (hR : 2 ≤ B) : Tabs b :=
  h.fr f.fr (fun e => by have := hW.up 0 e; omega) (fun e => by have := hW.up 1 e; omega)
/-- A slice of bytes, as an element. -/
def BZ (w : World) (v : Value) (l : List UInt8) : Prop := ∃ A c, v = .slice A l.length c ∧ l.length ≤ c ∧ Rd w A (bv l) ∧ (A = none → c = 0)
def BZZ (w : World) (A : Option Addr) (ls : List (List UInt8)) : Prop := ∃ vs : List Value, vs.length = ls.length ∧ Rd w A vs ∧ ∀ (j : Nat) (x : Value) (y : List UInt8), vs[j]? = some x → ls[j]? = some y → BZ w x y
theorem BZ.open' {w : World} {v : Value} {l : List UInt8} (h : BZ w v l) {A : Option Addr} {n c : Nat} (e : v = .slice A n c) : n = l.length ∧ Rd w A (bv l) ∧ (A = none → c = 0) := by
  obtain ⟨A2, c2, e2, -, hr, hn⟩ := h
  rw [e] at e2
  injection e2 with e3 e4 e5
  subst e3 e4 e5
  exact ⟨rfl, hr, hn⟩
theorem BZ.below {w w' : World} {v : Value} {l : List UInt8} (h : BZ w v l) (hb : Below w.heap.size w w') : BZ w' v l := by
  obtain ⟨A, c, e, hc, hr, hn⟩ := h
  exact ⟨A, c, e, hc, hr.below hb, hn⟩
theorem BZZ.below {w w' : World} {A : Option Addr} {ls : List (List UInt8)} (h : BZZ w A ls) (hb : Below w.heap.size w w') : BZZ w' A ls := by
  obtain ⟨vs, h1, h2, h3⟩ := h
  exact ⟨vs, h1, h2.below hb, fun j x y hx hy => (h3 j x y hx hy).below hb⟩
/-- The words of a chunk, cut out. -/
theorem wdF_cut (l : List UInt8) (k i : Nat) (hi : i < 16) : wdF ((l.drop (64 * k)).take 64) 0 i = wdF l (64 * k) i :=
  pw_congr _ _ _ _ (fun j hj => by
    unfold by1
    simp only [List.getD_eq_getElem?_getD, List.getElem?_take, List.getElem?_drop]
    rw [if_pos (by omega)]
    congr 3
    omega) 4 (Nat.le_refl _)
theorem HH_cut (l : List UInt8) (k : Nat) : tk (wdF ((l.drop (64 * k)).take 64) 0) (HH l k) = HH l (k + 1) := tk_congr _ _ (fun i hi => wdF_cut l k i hi) _
def slLen : Option Value → Nat
  | some (.slice _ n _) => n
  | _ => 0
/-- Behind the store of the count. -/
theorem Dg.count {w : World} {B R k z : Nat} {l : List UInt8} {u : Value} (h : Dg w B R k l z u) (z' : Nat) : Dg (w.setCell ⟨R, 5, none⟩ (.int .i64 z')) B R k l z' u ∧ FrW R u u w (w.setCell ⟨R, 5, none⟩ (.int .i64 z')) :=
  ⟨⟨hrow_set h.row (by simp [stC]), h.tl.block (fun b hb => heap_setCell_other w _ _ _ (fun e => h.apart (hb.trans (congrArg some e)))), h.le, h.apart, h.bR⟩, ⟨(Fr.refl _ _).setCell (p := ⟨R, 5, none⟩) (.inl rfl) _, .inl rfl⟩⟩
/-- Behind the append, and the store of the row. -/
theorem Dg.grown {w w1 : World} {B R k z : Nat} {l m : List UInt8} {u v : Value} (h : Dg w B R k l z u) (hT : Tl w1 B v (bv (l.drop (64 * k)) ++ bv m)) (hg : w.grownBy w1 u.ownBlock) (hat : v.ownBlock = u.ownBlock ∨ ∃ k, v.ownBlock = some k ∧ w.heap.size ≤ k) :
    Dg (w1.setCell ⟨R, 4, none⟩ v) B R k (l ++ m) z v ∧ FrW R u v w (w1.setCell ⟨R, 4, none⟩ v) := by
  have hR := h.inside
  have hrow := (hg.block R hR (fun e => h.apart e.symm)).trans h.row
  have hva : v.ownBlock ≠ some R := fun e => by
    rcases hat with h2 | ⟨k, h2, h3⟩
    · exact h.apart (h2.symm.trans e)
    · rw [h2] at e; injection e with e; omega
  have f1 : Fr (WS R u) w w1 := ⟨hg.os, hg.tape, hg.output, hg.size, fun k hk hs => hg.block k hk (fun e => hs (.inr e.symm))⟩
  refine ⟨⟨?_, ?_, ?_, hva, h.bR⟩, ⟨f1.setCell (p := ⟨R, 4, none⟩) (.inl rfl) _, hat⟩⟩
  · rw [HH_app l m k h.le]
    exact hrow_set hrow (by simp [stC])
  · rw [List.drop_append_of_le_length h.le, bv_append]
    exact hT.block (fun b hb => heap_setCell_other w1 _ _ _ (fun e => hva (hb.trans (congrArg some e))))
  · rw [List.length_append]; have := h.le; omega
theorem Tl.shape {w : World} {base : Nat} {v : Value} {xs : List Value} (h : Tl w base v xs) : ∃ A n c, v = .slice A n c ∧ n = xs.length := by
  obtain ⟨A, c, e, -⟩ := h.form
  exact ⟨A, _, c, e, rfl⟩
theorem info_u8b : (Tryd.prog.info? 5).map (fun i => (i.zero, i.size, i.bytes)) = some (some (.int .u8 0), 1, 1) := by kernel_rfl
end Go.Proofs.YtibhhebfenkeaaaDoor
