/-
  header.Read: what it answers, and its state.
  Plain laws of the sums: the step is linear over xor; the sum byte by byte is that of bits, with noughts behind them.
  The walks over jetsamref01.Bits and jetsamref02: the sums, bit by bit.
  The sums that the walks tell are those of the plain laws.
  Plain laws of the sums: two texts, and a sum behind its text.
  The sums of one, two, three parts that were made right before.
  header.Read: its walk, from the sum on.
  header.Read: its walk, from the rate on.
-/
import Derived.Test.YtgohfbfdhdepnaaDoorHb5
import Derived.Test.YtgohfbfdhdepnaaDoorHb6
import Derived.Test.YtgohfbfdhdepnaaDoorHb1
import Derived.Test.YtgohfbfdhdepnaaDoorRows
import Derived.WalkSpells
import Derived.Deep.QuietTactic
import Derived.BigQuiet
import Derived.Deep.RegionHeld3
import Derived.Deep.DeepCutAuto
import Derived.OwnWalk
import Derived.KernelRfl
import Derived.Deep.RegionLaw
set_option linter.unusedSimpArgs false
set_option linter.unusedVariables false
namespace Go.Proofs.YtgohfbfdhdepnaaDoor
open Go.RowKit

theorem wrE_zero {e x : Int} {b : Bool} (hx : x ≠ 0) (h : wrE e b x = 0) : e = 0 ∧ b = false := by
  obtain ⟨h1, h2⟩ := fstE_two _ _ h
  refine ⟨h1, ?_⟩
  cases b
  · rfl
  · exact absurd h2 (by simpa using hx)
theorem tqE_zero {l : List UInt8} {t : Nat} {e : Int} (n : Nat) (hn : n ≤ 48) (h : tqE l t e n = 0) : e = 0 ∧ t + n ≤ 8 * l.length ∨ e = 0 ∧ n = 0 := by
  unfold tqE at h
  split at h
  · rename_i he
    unfold tkE at h
    split at h
    · cases h
    · split at h
      · cases h
      · rename_i h1 h2
        by_cases h0 : n = 0
        · exact .inr ⟨he, h0⟩
        · exact .inl ⟨he, by omega⟩
  · rename_i he
    exact absurd h he
theorem tqT_ok {l : List UInt8} {t : Nat} {e : Int} (n : Nat) (h : tqE l t e n = 0) : tqT l t e n = t + n := by
  unfold tqE at h
  split at h
  · rename_i he
    rw [tqT, if_pos he, tkT, if_pos h, Int.toNat_natCast]
  · rename_i he
    exact absurd h he
/-- Where head has found nothing wrong, there are four bytes. -/
theorem head_ok {l : List UInt8} {x1 x2 x3 t4 : Nat} (h : HeadRel l x1 x2 x3 t4 0) : t4 = 32 ∧ 4 ≤ l.length := by
  obtain ⟨x0, t1, t2, t3, e1, e2, e3, e4, e5, e6, e7, e8, -, rt1, re1, re2, -, rt2, re3, re4, -, rt3, re5, re6, -, rt4, re7, re8, re9⟩ := h
  obtain ⟨k8, -⟩ := wrE_zero (by decide) re9.symm
  rw [k8] at re8
  obtain ⟨k7, -⟩ := wrE_zero (by decide) re8.symm
  rw [k7] at re7
  have q7 := tqT_ok 8 re7.symm
  rcases tqE_zero 8 (by decide) re7.symm with ⟨k6, l7⟩ | ⟨-, h0⟩
  · rw [k6] at re6
    obtain ⟨k5, -⟩ := wrE_zero (by decide) re6.symm
    rw [k5] at re5
    have q5 := tqT_ok 8 re5.symm
    rcases tqE_zero 8 (by decide) re5.symm with ⟨k4, l5⟩ | ⟨-, h0⟩
    · rw [k4] at re4
      obtain ⟨k3, -⟩ := wrE_zero (by decide) re4.symm
      rw [k3] at re3
      have q3 := tqT_ok 8 re3.symm
      rcases tqE_zero 8 (by decide) re3.symm with ⟨k2, l3⟩ | ⟨-, h0⟩
      · rw [k2] at re2
        obtain ⟨k1, -⟩ := wrE_zero (by decide) re2.symm
        rw [k1] at re1
        have q1 := tqT_ok 8 re1.symm
        have a1 : t1 = 8 := by rw [rt1]; exact q1
        have a2 : t2 = t1 + 8 := by rw [rt2]; exact q3
        have a3 : t3 = t2 + 8 := by rw [rt3]; exact q5
        have a4 : t4 = t3 + 8 := by rw [rt4]; exact q7
        omega
      · cases h0
    · cases h0
  · cases h0

theorem HdAt.apart {W : World} {B : Nat} {h : Hd} {A : Option Addr} {l : List UInt8} (H : HdAt W B h) (hr : Rd W A (bv l)) : ∀ k o, A = some ⟨k, o, none⟩ → 0 < (bv l).length → ¬ k = B := by
  rintro k o rfl hl rfl
  obtain ⟨k', o', e1, hc⟩ := hr 0 (bv l)[0] (List.getElem?_eq_getElem hl)
  injection e1 with e1; injection e1 with e1 e2; subst e1 e2
  obtain ⟨x, hx⟩ := bv_cell (l := l) (List.getElem?_eq_getElem hl)
  rw [hx] at hc
  have hr2 := cell_of_row W k (o + 0) _ _ _ H
  rw [hr2] at hc
  match o, hc with
  | 0, hc => simp [Hd.cells] at hc
  | 1, hc => simp [Hd.cells] at hc
  | 2, hc => simp [Hd.cells] at hc
  | 3, hc => simp [Hd.cells] at hc
  | 4, hc => simp [Hd.cells] at hc
  | 5, hc => simp [Hd.cells] at hc
  | 6, hc => simp [Hd.cells] at hc
  | 7, hc => simp [Hd.cells] at hc
  | 8, hc => simp [Hd.cells] at hc
  | o + 9, hc => simp [Hd.cells] at hc
/-- Read, under way: its reader, the result of noughts in B1, the header in B2. -/
structure Hr (w0 W : World) (Q R t : Nat) (A : Option Addr) (l : List UInt8) (c : Nat) (e : Int) (B1 B2 : Nat) (h : Hd) : Prop where
  rq : Rq w0 W Q R t A l c e
  z : HdAt W B1 Hd.zero
  h : HdAt W B2 h
  n1 : B1 ≠ Q ∧ B1 ≠ R
  n2 : B2 ≠ Q ∧ B2 ≠ R
  ne : B1 ≠ B2
  le : w0.heap.size ≤ B2
theorem Hr.step {w0 W W' : World} {Q R t t' : Nat} {A : Option Addr} {l : List UInt8} {c : Nat} {e e' : Int} {B1 B2 : Nat} {h : Hd} (H : Hr w0 W Q R t A l c e B1 B2 h) (hr : Rq w0 W' Q R t' A l c e') (f : Fr (FQ Q R) W W') : Hr w0 W' Q R t' A l c e' B1 B2 h :=
  ⟨hr, f.row H.z (fun k => by have := H.n1; rcases k with k | k <;> omega), f.row H.h (fun k => by have := H.n2; rcases k with k | k <;> omega), H.n1, H.n2, H.ne, H.le⟩
theorem Hr.below {w0 W W' : World} {Q R t : Nat} {A : Option Addr} {l : List UInt8} {c : Nat} {e : Int} {B1 B2 : Nat} {h : Hd} (H : Hr w0 W Q R t A l c e B1 B2 h) (hb : Below W.heap.size W W') : Hr w0 W' Q R t A l c e B1 B2 h :=
  ⟨H.rq.below hb, H.z.below hb, H.h.below hb, H.n1, H.n2, H.ne, H.le⟩
theorem Hr.set {w0 W : World} {Q R t : Nat} {A : Option Addr} {l : List UInt8} {c : Nat} {e : Int} {B1 B2 : Nat} {h : Hd} (H : Hr w0 W Q R t A l c e B1 B2 h) (i : Nat) (v : Value) (h' : Hd) (hc : h.cells.setIfInBounds i v = h'.cells) : Hr w0 (W.setCell ⟨B2, i, none⟩ v) Q R t A l c e B1 B2 h' := by
  have f : Fr (· = B2) W (W.setCell ⟨B2, i, none⟩ v) := (Fr.refl _ W).put i v
  exact ⟨⟨f.row H.rq.q (fun k => H.n2.1 k.symm), H.rq.rd.keep f (fun k => H.n2.2 k.symm) (H.h.apart H.rq.rd.rd), H.rq.b.setCell (p := ⟨B2, i, none⟩) H.le v, H.rq.leq, H.rq.ler, H.rq.ne⟩, row_other H.z H.ne i v, H.h.set i v h' hc, H.n1, H.n2, H.ne, H.le⟩
theorem Hr.fz {w0 W : World} {Q R t : Nat} {A : Option Addr} {l : List UInt8} {c : Nat} {e : Int} {B1 B2 : Nat} {h : Hd} (H : Hr w0 W Q R t A l c e B1 B2 h) (i : Nat) : W.frozen? ⟨B2, i, none⟩ = false := frozen_of_row _ _ i _ _ H.h
theorem results_row_tmp2 {P : Program} {fn : Func} {p u v : Tmp} {ty : TypeId} (h : fn.results = #[.cell p ty, .tmp u, .tmp v]) (tmps : Array Value) (w : World) {g : Nat} {t : TypeId} {cs : Array Value} {fr : Nat × Nat} (x y : Value) {d : TypeDesc}
    (hp : tmps.getD p undef = .pointer (some ⟨g, 0, none⟩)) (hx : tmps.getD u undef = x) (hy : tmps.getD v undef = y) (hg : w.heap[g]? = some (.cells cs t fr))
    (hu : P.underlying ty = some d) (hd : (match d with | .struct _ | .array _ _ => true | _ => false) = true) (hi : (P.info? ty).map (·.size) = some cs.size) :
    (results fn tmps).run P w = .ok (.tuple #[.agg cs, x, y]) w := by
  have hp' : tmps[p]?.getD undef = .pointer (some ⟨g, 0, none⟩) := by simpa using hp
  have hx' : tmps[u]?.getD undef = x := by simpa using hx
  have hy' : tmps[v]?.getD undef = y := by simpa using hy
  simp [results, h, hp', hx', hy', asAddr, Sem.run_bind, Result.andThen, run_loadVar_row w g t ty cs fr d hg hu hd hi]
/-- The bytes' numbers. -/
def n8 (l : List UInt8) : List Nat := l.map (·.toNat)
theorem n8_lt {l : List UInt8} {x : Nat} (h : x ∈ n8 l) : x < 256 := by
  obtain ⟨y, -, rfl⟩ := List.mem_map.1 h
  exact y.toNat_lt

/-- The block that is read, behind the number's end T. -/
def BlkRel (l16 : List UInt8) (p2 T : Nat) (bb : Int) (t6 : Nat) (e7 : Int) : Prop :=
  blkL.getD p2 0 = -2 ∧ bb = (tqV l16 T 0 (((p2 - 5) * 8 : Nat) : Int) : Int) + 1 ∧ t6 = tqT l16 T 0 (((p2 - 5) * 8 : Nat) : Int) ∧ e7 = wrE (tqE l16 T 0 (((p2 - 5) * 8 : Nat) : Int)) (decide (65535 < bb)) 13 ∨
    blkL.getD p2 0 ≠ -2 ∧ bb = blkL.getD p2 0 ∧ t6 = T ∧ e7 = 0
/-- The rate that is read. -/
def RatRel (l16 : List UInt8) (q2 t6 : Nat) (e7 rr : Int) (t8 : Nat) (e8 : Int) : Prop :=
  ratL.getD q2 0 = -2 ∧ rr = (tqV l16 t6 e7 (unN q2 : Nat) : Int) * unU q2 ∧ t8 = tqT l16 t6 e7 (unN q2 : Nat) ∧ e8 = tqE l16 t6 e7 (unN q2 : Nat) ∨
    ratL.getD q2 0 ≠ -2 ∧ rr = ratL.getD q2 0 ∧ t8 = t6 ∧ e8 = e7
/-- What Read answers behind the number: the block, the rate, the sum. -/
def TailRel (l l16 : List UInt8) (p2 q2 T : Nat) (bb rr : Int) (at_ : Nat) (e : Int) : Prop :=
  ∃ (t6 t8 : Nat) (e7 e8 : Int), BlkRel l16 p2 T bb t6 e7 ∧ RatRel l16 q2 t6 e7 rr t8 e8 ∧
    at_ = t8 / 8 ∧ e = wrE (tqE l16 t8 e8 8) ((tqV l16 t8 e8 8 : Int) != (C2.crc8 0 (l.take (t8 / 8)) : Nat)) 15
theorem tqV_ltN (l : List UInt8) (t : Nat) (e : Int) (n : Nat) : tqV l t e n < 2 ^ n := by
  unfold tqV
  split
  · unfold tkV
    split
    · have := sg_lt (bitAt_lt l) t n
      rwa [Int.toNat_natCast]
    · exact Nat.two_pow_pos n
  · exact Nat.two_pow_pos n
theorem blk_behind7 : ∀ p, p < 16 → blkL.getD p 0 = -2 → p = 6 ∨ p = 7 := by decide
/-- What Read answers. -/
def ReadRel (l : List UInt8) (x : Hd) (n : Nat) (f : Int) : Prop :=
  ∃ (x1 x2 x3 t4 : Nat) (e9 : Int), HeadRel (l.take 16) x1 x2 x3 t4 e9 ∧
    (e9 ≠ 0 ∧ x = Hd.zero ∧ n = 0 ∧ f = e9 ∨
     e9 = 0 ∧ (fstE [((C3.getR (n8 (l.drop 4))).2.2 : Int), if decide (((C3.getR (n8 (l.drop 4))).1 : Int) ≥ mostV ((x1 % 2 : Nat) == 1)) then 10 else 0] ≠ 0 ∧ x = Hd.zero ∧ n = 0 ∧ f = fstE [((C3.getR (n8 (l.drop 4))).2.2 : Int), if decide (((C3.getR (n8 (l.drop 4))).1 : Int) ≥ mostV ((x1 % 2 : Nat) == 1)) then 10 else 0] ∨
       fstE [((C3.getR (n8 (l.drop 4))).2.2 : Int), if decide (((C3.getR (n8 (l.drop 4))).1 : Int) ≥ mostV ((x1 % 2 : Nat) == 1)) then 10 else 0] = 0 ∧ ∃ (bb rr : Int) (at_ : Nat) (e : Int), TailRel l (l.take 16) (x2 / 16) (x2 % 16) ((4 + (C3.getR (n8 (l.drop 4))).2.1) * 8) bb rr at_ e ∧
         (e ≠ 0 ∧ x = Hd.zero ∧ n = 0 ∧ f = e ∨
          e = 0 ∧ x = ⟨(x1 % 2 : Nat) == 1, (x2 / 16 : Nat), (x2 % 16 : Nat), (x3 / 16 : Nat), (x3 / 2 % 8 : Nat), (C3.getR (n8 (l.drop 4))).1, bb, rr, depL.getD (x3 / 2 % 8) 0⟩ ∧ n = at_ + 1 ∧ f = 0)))
end Go.Proofs.YtgohfbfdhdepnaaDoor

namespace Go.Proofs.YtgohfbfdhdepnaaDoor.Crc
open Go.Proofs.YtgohfbfdhdepnaaDoor

/-- One nought more behind a sum of W bits; P: the polynomial with its first one, M = 2^W. -/
def L (M P : Nat) (s : Nat) : Nat := if M ≤ 2 * s then (2 * s) ^^^ P else 2 * s
/-- The same, one bit more behind. -/
def lst (M p : Nat) (s b : Nat) : Nat := if M ≤ 2 * s + b then (2 * s + b - M) ^^^ p else 2 * s + b

theorem two_mul_xor (a b : Nat) : 2 * (a ^^^ b) = (2 * a) ^^^ (2 * b) := by
  have h : ∀ n : Nat, 2 * n = n <<< 1 := fun n => by rw [Nat.shiftLeft_eq]; omega
  rw [h, h, h, Nat.shiftLeft_xor_distrib]
theorem mul_pow_xor (a b k : Nat) : (a ^^^ b) * 2 ^ k = (a * 2 ^ k) ^^^ (b * 2 ^ k) := by
  rw [← Nat.shiftLeft_eq, ← Nat.shiftLeft_eq, ← Nat.shiftLeft_eq, Nat.shiftLeft_xor_distrib]
theorem high_bit (W s : Nat) (hs : s < 2 ^ (W + 1)) : s.testBit W = decide (2 ^ W ≤ s) := by
  by_cases h : 2 ^ W ≤ s
  · rw [decide_eq_true h]
    have e : s = 2 ^ W + (s - 2 ^ W) := by omega
    rw [e, Nat.testBit_two_pow_add_eq, Nat.testBit_lt_two_pow (by rw [Nat.pow_succ] at hs; omega)]
    rfl
  · rw [decide_eq_false h, Nat.testBit_lt_two_pow (by omega)]
theorem xor_add (W a b : Nat) (hb : b < 2 ^ W) : 2 ^ W * a + b = (2 ^ W * a) ^^^ b := by
  refine Nat.eq_of_testBit_eq fun i => ?_
  rw [Nat.testBit_xor, Nat.testBit_two_pow_mul_add _ hb, Nat.testBit_two_pow_mul]
  by_cases h : i < W
  · simp [h, show ¬ W ≤ i from by omega]
  · rw [Nat.testBit_lt_two_pow (x := b) (i := i) (Nat.lt_of_lt_of_le hb (Nat.pow_le_pow_right (by decide) (by omega)))]
    simp [h, show W ≤ i from by omega]

/-- The numbers of a sum of W bits: M = 2^W, P = M + p. -/
structure Pm (W M P p : Nat) : Prop where
  m : M = 2 ^ W
  s : P = M + p
  l : p < M
  w : 8 ≤ W

section
variable {W M P p : Nat}
theorem Pm.pos (h : Pm W M P p) : 256 ≤ M := by rw [h.m]; exact Nat.pow_le_pow_right (n := 2) (by decide) h.w
theorem Pm.xor_lt (h : Pm W M P p) {a b : Nat} (ha : a < M) (hb : b < M) : a ^^^ b < M := by
  rw [h.m] at *; exact Nat.xor_lt_two_pow ha hb
theorem Pm.add_xor (h : Pm W M P p) {r : Nat} (hr : r < M) : M + r = M ^^^ r := by
  have := xor_add W 1 r (by rw [← h.m]; exact hr)
  rw [Nat.mul_one, ← h.m] at this
  exact this
theorem Pm.P_xor (h : Pm W M P p) : P = M ^^^ p := by rw [h.s, h.add_xor h.l]
theorem L_of (s : Nat) : L M P s = (2 * s) ^^^ (if M ≤ 2 * s then P else 0) := by
  unfold L; split <;> simp
theorem Pm.red (h : Pm W M P p) (s : Nat) (hs : s < M) (hh : M ≤ 2 * s) : 2 * s = M ^^^ (2 * s - M) := by
  have := h.add_xor (r := 2 * s - M) (by omega)
  omega
theorem Pm.L_lt (h : Pm W M P p) (s : Nat) (hs : s < M) : L M P s < M := by
  unfold L
  split
  · rename_i hh
    rw [h.P_xor, ← Nat.xor_assoc, h.red s hs hh, Nat.xor_comm M (2 * s - M), Nat.xor_assoc (2 * s - M) M M, Nat.xor_self, Nat.xor_zero]
    have := h.l
    exact h.xor_lt (by omega) (by omega)
  · omega
theorem Pm.bit (h : Pm W M P p) (s : Nat) (hs : s < M) : (2 * s).testBit W = decide (M ≤ 2 * s) := by
  rw [high_bit W (2 * s) (by rw [Nat.pow_succ, ← h.m]; omega), h.m]
theorem Pm.cond_xor (h : Pm W M P p) (a b : Nat) (ha : a < M) (hb : b < M) : decide (M ≤ 2 * (a ^^^ b)) = (decide (M ≤ 2 * a) ^^ decide (M ≤ 2 * b)) := by
  rw [← h.bit _ (h.xor_lt ha hb), ← h.bit a ha, ← h.bit b hb, two_mul_xor, Nat.testBit_xor]
theorem Pm.L_xor (h : Pm W M P p) (a b : Nat) (ha : a < M) (hb : b < M) : L M P (a ^^^ b) = L M P a ^^^ L M P b := by
  have hc := h.cond_xor a b ha hb
  unfold L
  by_cases ca : M ≤ 2 * a <;> by_cases cb : M ≤ 2 * b
  · have cc : ¬ M ≤ 2 * (a ^^^ b) := by simpa [ca, cb] using hc
    rw [if_pos ca, if_pos cb, if_neg cc, two_mul_xor]
    rw [Nat.xor_assoc, ← Nat.xor_assoc P, Nat.xor_comm P (2 * b), Nat.xor_assoc (2 * b), Nat.xor_self, Nat.xor_zero]
  · have cc : M ≤ 2 * (a ^^^ b) := by simpa [ca, cb] using hc
    rw [if_pos ca, if_neg cb, if_pos cc, two_mul_xor]
    rw [Nat.xor_assoc, Nat.xor_assoc, Nat.xor_comm (2 * b) P]
  · have cc : M ≤ 2 * (a ^^^ b) := by simpa [ca, cb] using hc
    rw [if_neg ca, if_pos cb, if_pos cc, two_mul_xor]
    rw [Nat.xor_assoc]
  · have cc : ¬ M ≤ 2 * (a ^^^ b) := by simpa [ca, cb] using hc
    rw [if_neg ca, if_neg cb, if_neg cc, two_mul_xor]
theorem Pm.it_lt (h : Pm W M P p) (k s : Nat) (hs : s < M) : it (L M P) k s < M := YtgohfbfdhdepnaaDoor.it_lt (fun s hs => h.L_lt s hs) k s hs
theorem Pm.it_xor (h : Pm W M P p) (k a b : Nat) (ha : a < M) (hb : b < M) : it (L M P) k (a ^^^ b) = it (L M P) k a ^^^ it (L M P) k b := by
  induction k with
  | zero => rfl
  | succ k ih =>
    show L M P (it (L M P) k (a ^^^ b)) = L M P _ ^^^ L M P _
    rw [ih, h.L_xor _ _ (h.it_lt k a ha) (h.it_lt k b hb)]
theorem it_low (k s : Nat) (hs : s * 2 ^ k < M) : it (L M P) k s = s * 2 ^ k := by
  induction k with
  | zero => simp [it]
  | succ k ih =>
    have h : s * 2 ^ (k + 1) = 2 * (s * 2 ^ k) := by rw [Nat.pow_succ]; simp [Nat.mul_comm, Nat.mul_left_comm]
    show L M P (it (L M P) k s) = _
    rw [ih (by omega), L, if_neg (by omega), h]
theorem it_add (f : Nat → Nat) (j k s : Nat) : it f (j + k) s = it f j (it f k s) := by
  induction j with
  | zero => simp [it]
  | succ j ih => rw [Nat.succ_add]; show f _ = f _; rw [ih]
theorem add_bit (n b : Nat) (hb : b ≤ 1) : 2 * n + b = (2 * n) ^^^ b := by
  have := xor_add 1 n b (by omega)
  simpa using this
theorem Pm.lst_eq (h : Pm W M P p) (s b : Nat) (hs : s < M) (hb : b ≤ 1) : lst M p s b = L M P s ^^^ b := by
  obtain ⟨m, hm⟩ : ∃ m, M = 2 * m := ⟨2 ^ (W - 1), by
    rw [h.m]
    have : W = (W - 1) + 1 := by have := h.w; omega
    rw [this, Nat.pow_succ]; simp [Nat.mul_comm]⟩
  unfold lst L
  by_cases hh : M ≤ 2 * s
  · rw [if_pos (by omega), if_pos hh, h.P_xor]
    have e := h.red s hs hh
    have e2 : 2 * s + b - M = (2 * s - M) ^^^ b := by
      rw [show 2 * s - M = 2 * (s - m) from by omega, ← add_bit _ _ hb]; omega
    rw [e2]
    conv => rhs; rw [e]
    generalize 2 * s - M = r
    rw [Nat.xor_comm M r, Nat.xor_assoc r M, ← Nat.xor_assoc M M, Nat.xor_self, Nat.zero_xor, Nat.xor_assoc, Nat.xor_assoc, Nat.xor_comm b p]
  · rw [if_neg (by omega), if_neg hh, add_bit _ _ hb]
theorem Pm.lst_lt (h : Pm W M P p) (s b : Nat) (hs : s < M) (hb : b ≤ 1) : lst M p s b < M := by
  rw [h.lst_eq s b hs hb]
  have := h.pos
  exact h.xor_lt (h.L_lt s hs) (by omega)
theorem Pm.lfold_lt (h : Pm W M P p) (l : List Nat) (hl : ∀ b ∈ l, b ≤ 1) (s : Nat) (hs : s < M) : l.foldl (lst M p) s < M := by
  induction l generalizing s with
  | nil => exact hs
  | cons b l ih => exact ih (fun c hc => hl c (List.mem_cons_of_mem _ hc)) _ (h.lst_lt s b hs (hl b (List.mem_cons_self ..)))

/-- The bits of a byte, the greatest one first. -/
def bits8 (x : Nat) : Nat → List Nat
  | 0 => []
  | k + 1 => x / 2 ^ k % 2 :: bits8 x k
theorem bits8_le (x k : Nat) : ∀ b ∈ bits8 x k, b ≤ 1 := by
  induction k with
  | zero => intro b h; simp [bits8] at h
  | succ k ih =>
    intro b h
    simp only [bits8, List.mem_cons] at h
    rcases h with rfl | h
    · omega
    · exact ih b h
theorem mod_split (x k : Nat) : x % 2 ^ (k + 1) = 2 ^ k * (x / 2 ^ k % 2) + x % 2 ^ k := by
  rw [Nat.pow_succ, Nat.mod_mul]
  omega
/-- Bits of a byte behind a sum. -/
theorem Pm.bits (h : Pm W M P p) (x : Nat) : ∀ (k s : Nat), k ≤ W → s < M → (bits8 x k).foldl (lst M p) s = it (L M P) k s ^^^ (x % 2 ^ k)
  | 0, s, _, _ => by simp [bits8, it, Nat.mod_one]
  | k + 1, s, hk, hs => by
    have hb : x / 2 ^ k % 2 ≤ 1 := by omega
    show (bits8 x k).foldl (lst M p) (lst M p s (x / 2 ^ k % 2)) = _
    rw [h.bits x k _ (by omega) (h.lst_lt s _ hs hb), h.lst_eq s _ hs hb]
    have hp2 : (x / 2 ^ k % 2) * 2 ^ k < M := by
      rw [h.m]
      have h1 : 2 ^ k < 2 ^ W := Nat.pow_lt_pow_right (by decide) (by omega)
      rcases (show x / 2 ^ k % 2 = 0 ∨ x / 2 ^ k % 2 = 1 from by omega) with e | e <;> rw [e]
      · have := Nat.two_pow_pos W; omega
      · omega
    have := h.pos
    rw [h.it_xor k _ _ (h.L_lt s hs) (by omega), it_low k _ hp2]
    have e : it (L M P) (k + 1) s = it (L M P) k (L M P s) := by rw [it_add]; rfl
    rw [e, mod_split, xor_add k _ _ (Nat.mod_lt _ (Nat.two_pow_pos k)), Nat.xor_assoc, Nat.mul_comm]
/-- Byte by byte. K = 2^(W-8). -/
def nxt (M P K : Nat) (s x : Nat) : Nat := ((s * 256) % M) ^^^ it (L M P) 8 ((s / K ^^^ x) * K)
theorem Pm.K (h : Pm W M P p) : M = 256 * 2 ^ (W - 8) := by
  rw [h.m]
  have : W = 8 + (W - 8) := by have := h.w; omega
  conv => lhs; rw [this, Nat.pow_add]
theorem Pm.nxt_eq (h : Pm W M P p) (s x : Nat) (hs : s < M) (hx : x < 256) : nxt M P (2 ^ (W - 8)) s x = it (L M P) 8 (s ^^^ (x * 2 ^ (W - 8))) := by
  have hK := h.K
  have hK0 : 0 < 2 ^ (W - 8) := Nat.two_pow_pos _
  have hsp := xor_add (W - 8) (s / 2 ^ (W - 8)) (s % 2 ^ (W - 8)) (Nat.mod_lt _ hK0)
  rw [Nat.div_add_mod, Nat.mul_comm] at hsp
  have hlow : s % 2 ^ (W - 8) < 2 ^ (W - 8) := Nat.mod_lt _ hK0
  have hh : s / 2 ^ (W - 8) < 256 := by rw [Nat.div_lt_iff_lt_mul hK0]; omega
  have hhx : s / 2 ^ (W - 8) ^^^ x < 256 := Nat.xor_lt_two_pow (n := 8) hh hx
  have e1 : (s * 256) % M = it (L M P) 8 (s % 2 ^ (W - 8)) := by
    rw [it_low 8 _ (by omega), hK, Nat.mul_comm s 256, Nat.mul_mod_mul_left, Nat.mul_comm]
  have hb : ∀ n, n < 256 → n * 2 ^ (W - 8) < M := fun n hn => by rw [hK]; exact Nat.mul_lt_mul_of_pos_right hn hK0
  unfold nxt
  rw [e1, ← h.it_xor 8 _ _ (by omega) (hb _ hhx)]
  congr 1
  conv => rhs; rw [hsp]
  rw [mul_pow_xor, Nat.xor_comm (s / 2 ^ (W - 8) * 2 ^ (W - 8)) (s % 2 ^ (W - 8)), Nat.xor_assoc]
theorem Pm.nxt_lt (h : Pm W M P p) (s x : Nat) (hs : s < M) (hx : x < 256) : nxt M P (2 ^ (W - 8)) s x < M := by
  rw [h.nxt_eq s x hs hx]
  have hb : x * 2 ^ (W - 8) < M := by rw [h.K]; exact Nat.mul_lt_mul_of_pos_right hx (Nat.two_pow_pos _)
  exact h.it_lt 8 _ (h.xor_lt hs hb)
def bitsOf (l : List UInt8) : List Nat := l.flatMap fun x => bits8 x.toNat 8
theorem bitsOf_le (l : List UInt8) : ∀ b ∈ bitsOf l, b ≤ 1 := by
  intro b h
  simp only [bitsOf, List.mem_flatMap] at h
  obtain ⟨x, _, h⟩ := h
  exact bits8_le _ _ b h
def crc (M P K : Nat) (s : Nat) (l : List UInt8) : Nat := l.foldl (fun s x => nxt M P K s x.toNat) s
theorem Pm.crc_lt (h : Pm W M P p) (l : List UInt8) : ∀ s, s < M → crc M P (2 ^ (W - 8)) s l < M := by
  induction l with
  | nil => exact fun s hs => hs
  | cons x l ih => exact fun s hs => ih _ (h.nxt_lt s _ hs (by have := x.toNat_lt; omega))
theorem Pm.crc_eq (h : Pm W M P p) (l : List UInt8) : ∀ a, a < M → crc M P (2 ^ (W - 8)) (it (L M P) W a) l = it (L M P) W ((bitsOf l).foldl (lst M p) a) := by
  induction l with
  | nil => exact fun a _ => rfl
  | cons x l ih =>
    intro a ha
    have hx : x.toNat < 256 := by have := x.toNat_lt; omega
    have hW := h.w
    have hp := h.pos
    have e1 : (bitsOf (x :: l)).foldl (lst M p) a = (bitsOf l).foldl (lst M p) (it (L M P) 8 a ^^^ x.toNat) := by
      simp only [bitsOf, List.flatMap_cons, List.foldl_append]
      rw [h.bits x.toNat 8 a hW ha, Nat.mod_eq_of_lt hx]
    rw [e1, ← ih _ (h.xor_lt (h.it_lt 8 a ha) (by omega))]
    show crc M P _ (nxt M P _ (it (L M P) W a) x.toNat) l = _
    congr 1
    rw [h.nxt_eq _ _ (h.it_lt W a ha) hx, h.it_xor W _ _ (h.it_lt 8 a ha) (by omega)]
    have hb : x.toNat * 2 ^ (W - 8) < M := by rw [h.K]; exact Nat.mul_lt_mul_of_pos_right hx (Nat.two_pow_pos _)
    rw [h.it_xor 8 _ _ (h.it_lt W a ha) hb]
    congr 1
    · rw [← it_add, ← it_add, Nat.add_comm]
    · rw [← it_low (W - 8) x.toNat hb, ← it_add]
      congr 1
      omega
theorem Pm.lst0 (h : Pm W M P p) (s : Nat) (hs : s < M) : lst M p s 0 = L M P s := by rw [h.lst_eq s 0 hs (by omega), Nat.xor_zero]
theorem Pm.zeros (h : Pm W M P p) : ∀ (k s : Nat), s < M → (List.replicate k 0).foldl (lst M p) s = it (L M P) k s
  | 0, _, _ => rfl
  | k + 1, s, hs => by
    rw [List.replicate_succ]
    show (List.replicate k 0).foldl (lst M p) (lst M p s 0) = _
    rw [h.lst0 s hs, h.zeros k _ (h.L_lt s hs)]
    have : it (L M P) (k + 1) s = it (L M P) k (L M P s) := by rw [it_add]; rfl
    rw [this]
/-- The sum byte by byte is that of the bits with W noughts behind them. -/
theorem Pm.tells (h : Pm W M P p) (l : List UInt8) : crc M P (2 ^ (W - 8)) 0 l = (bitsOf l ++ List.replicate W 0).foldl (lst M p) 0 := by
  have hp := h.pos
  have h0 : it (L M P) W 0 = 0 := by rw [it_low W 0 (by omega)]; omega
  have := h.crc_eq l 0 (by omega)
  rw [h0] at this
  rw [this, List.foldl_append, h.zeros _ _ (h.lfold_lt _ (bitsOf_le l) 0 (by omega))]
end
theorem p8 : Pm 8 256 263 7 := ⟨by decide, by decide, by decide, by decide⟩
theorem p16 : Pm 16 65536 98309 32773 := ⟨by decide, by decide, by decide, by decide⟩
end Go.Proofs.YtgohfbfdhdepnaaDoor.Crc

namespace Go.Proofs.YtgohfbfdhdepnaaDoor.C2
open Go.RowKit
open Crc (bits8 bitsOf bits8_le bitsOf_le)

theorem info_int : (Tryd.prog.info? 3).map (fun i => (i.zero, i.size, i.bytes)) = some (some (.int .i64 0), 1, 8) := by kernel_rfl

theorem bits8_snoc (x d : Nat) (hd : d + 1 ≤ 8) : (bits8 x 8).take (8 - d) = (bits8 x 8).take (8 - (d + 1)) ++ [x / 2 ^ d % 2] := by
  have : d = 0 ∨ d = 1 ∨ d = 2 ∨ d = 3 ∨ d = 4 ∨ d = 5 ∨ d = 6 ∨ d = 7 := by omega
  rcases this with rfl | rfl | rfl | rfl | rfl | rfl | rfl | rfl <;> simp [bits8]
theorem bits8_length (x k : Nat) : (bits8 x k).length = k := by induction k <;> simp_all [bits8]
theorem bitsOf_length (l : List UInt8) : (bitsOf l).length = 8 * l.length := by
  induction l with
  | nil => rfl
  | cons x l ih => simp only [bitsOf, List.flatMap_cons, List.length_append, bits8_length, List.length_cons] at *; omega

set_option maxRecDepth 100000 in
set_option maxHeartbeats 800000 in
theorem Bits_any (l : List UInt8) (A : Option Addr) (c : Nat) (w : World) (hr : Rd w A (bv l)) (hlen : l.length ≤ 1000000) :
    Calls Tryd.prog 39 #[.slice A l.length c] w fun e w' =>
      ∃ v, e = .returned v ∧ w'.ownsRow w.heap.size 3 1 v (8 * l.length) (nv (bitsOf l)) ∧ Below w.heap.size w w' := by
  have Hr := Lib.hid hr; clear hr
  go_enter Tryd.func39, Tryd.ntmps39
  go_wp2_with fail
  go_loopw [3, 4] (fun v i wr => ∃ j : Nat, j ≤ l.length ∧ i = .int .i64 j ∧ wr.ownsRow w.heap.size 3 1 v (8 * j) (nv (bitsOf (l.take j))) ∧ Below w.heap.size w wr) (fun _ i _ => l.length - (intOf i).toNat)
  case atStart => exact ⟨0, by omega, rfl, World.ownsRow_nil w w.heap.size _ 1, by repeat (first | exact Below.refl _ _ | assumption | refine below_drewN ?_ _ | refine Below.drew ?_ | refine Below.alloc ?_ (Nat.le_refl _) _ | refine bal ?_ _ | refine bnext ?_ (by assumption))⟩
  case round =>
    obtain ⟨j, hj, rfl, hown, hb⟩ := hrel
    by_cases hjj : j < l.length
    · obtain ⟨b, o, rfl, hcell⟩ := Hr.out.at_ (j := j) (by rw [bv_length]; exact hjj)
      have e2 := bv_get l j hjj
      rw [List.getElem?_eq_getElem (by rw [bv_length]; exact hjj)] at e2
      rw [Option.some.inj e2] at hcell
      clear e2
      have hx0 := l[j].toNat_lt
      have Ht : Hid (bitsOf (l.take (j + 1)) = bitsOf (l.take j) ++ bits8 l[j].toNat 8) := by
        show _ = _
        rw [List.take_succ_eq_append_getElem hjj]; simp only [bitsOf, List.flatMap_append, List.flatMap_cons, List.flatMap_nil, List.append_nil]
      have Hl8 : Hid ((bitsOf (l.take j)).length = 8 * j) := by
        show _ = _
        rw [bitsOf_length, List.length_take]; omega
      generalize hq : bitsOf (l.take j) = q at *
      clear hq
      generalize hx : l[j].toNat = x at *
      clear hx
      obtain ⟨wo, rfl⟩ : ∃ wo : World, wo = wr := ⟨_, rfl⟩
      go_wp2_with fail
      go_loopw [3, 5] (fun v i wr => ∃ d : Nat, d ≤ 8 ∧ i = .int .i64 ((d : Int) - 1) ∧ wr.ownsRow w.heap.size 3 1 v (8 * j + (8 - d)) (nv (q ++ (bits8 x 8).take (8 - d))) ∧ Below w.heap.size w wr) (fun _ i _ => (intOf i + 1).toNat)
      case atStart => exact ⟨8, by omega, rfl, by simpa using hown, hb⟩
      case round =>
        obtain ⟨d, hd, rfl, hown2, hb2⟩ := hrel
        by_cases hdd : d = 0
        · subst hdd
          go_wp2_with fail
          go_roundw
          case rel =>
            refine ⟨j + 1, by omega, by go_num, ?_, hb2⟩
            rw [Ht.out]
            rw [List.take_of_length_le (by rw [bits8_length]; exact Nat.le_refl 8)] at hown2
            exact hown2
          case measure => simp [intOf] <;> omega
        · obtain ⟨d, rfl⟩ : ∃ d', d = d' + 1 := ⟨d - 1, by omega⟩
          have Hown := Lib.hid hown2; clear hown2
          have hcell2 := (hb2.cell (p := ⟨b, o + j, none⟩) (cell_lt hcell)).trans hcell
          clear hcell
          clear hown
          have hd0 : (0 : Int) ≤ d := by omega
          have hd1 : ((d + 1 : Nat) : Int) - 1 = d := by omega
          rw [hd1]
          clear hd1
          go_wp2_with (at_builtin; refine app1 (w0 := w) rfl _ _ 65 rfl Tryd.underlying65 info_int rfl (by decide) rfl Hown.out (Nat.le_refl _) hb2.size hb2 rfl rfl (one_int _ _) (by omega) (by unfold maxLen; omega) ?_; intro v1 w1 own1 hb1 hs1; have Hown1 := Lib.hid own1; clear own1)
          go_roundw
          case rel =>
            refine ⟨d, by omega, rfl, ?_, hb1⟩
            have h := Hown1.out
            have e := i64_and_nat (x / 2 ^ d) 1 (Nat.lt_of_le_of_lt (Nat.div_le_self _ _) (by omega)) (by omega)
            rw [Nat.and_one_is_mod] at e
            have e2 : bits .and .i64 ((x : Int) / 2 ^ d) 1 = ((x / 2 ^ d % 2 : Nat) : Int) := by
              rw [show ((x : Int) / 2 ^ d) = ((x / 2 ^ d : Nat) : Int) from by simp]
              exact e
            rw [e2] at h
            rw [bits8_snoc x d hd, ← List.append_assoc, nv_append]
            rw [show 8 * j + (8 - (d + 1)) + 1 = 8 * j + (8 - d) from by omega] at h
            exact h
          case measure => simp [intOf] <;> omega
    · obtain rfl : j = l.length := by omega
      go_wp2_with fail
      go_ret
      refine ⟨_, rfl, ?_, hb⟩
      rw [List.take_of_length_le (Nat.le_refl _)] at hown
      exact hown
def lst8 (s b : Nat) : Nat := if 256 ≤ 2 * s + b then (2 * s + b - 256) ^^^ 7 else 2 * s + b
def lft8 (l : List Nat) : Nat := (l ++ List.replicate 8 0).foldl lst8 0
theorem lst8_lt (s b : Nat) (hs : s < 256) (hb : b ≤ 1) : lst8 s b < 256 := by
  unfold lst8; split
  · exact Nat.xor_lt_two_pow (n := 8) (by omega) (by omega)
  · omega
theorem lfold8_lt (l : List Nat) (h : ∀ b ∈ l, b ≤ 1) (s : Nat) (hs : s < 256) : l.foldl lst8 s < 256 := by
  induction l generalizing s with
  | nil => exact hs
  | cons x l ih => exact ih (fun b hb => h b (List.mem_cons_of_mem _ hb)) _ (lst8_lt _ _ hs (h x (List.mem_cons_self ..)))
theorem xor_int8 (s b : Nat) (hs : s < 256) (hb : b ≤ 1) (h : 256 ≤ 2 * s + b) : bits .xor .i64 (2 * (s : Int) + b - 256) 7 = ((lst8 s b : Nat) : Int) := by
  rw [lst8, if_pos h, show (2 * (s : Int) + b - 256) = ((2 * s + b - 256 : Nat) : Int) from by omega]
  exact i64_xor_nat _ 7 (by omega) (by omega)
theorem xor_int8z (s : Nat) (hs : s < 256) (h : 256 ≤ 2 * s) : bits .xor .i64 (2 * (s : Int) - 256) 7 = ((lst8 s 0 : Nat) : Int) := by
  have := xor_int8 s 0 hs (by omega) (by omega)
  simpa using this

set_option maxRecDepth 100000 in
set_option maxHeartbeats 800000 in
theorem Left8_any (l : List Nat) (hb : ∀ b ∈ l, b ≤ 1) (A : Option Addr) (c : Nat) (w : World) (hr : Rd w A (nv l)) (hlen : (l.length : Int) ≤ 100000000) :
    Calls Tryd.prog 61 #[.slice A l.length c, .int .i64 8, .int .i64 7] w fun e w' =>
      e = .returned (.int .i64 (lft8 l)) ∧ Below w.heap.size w w' := by
  have Hr := Lib.hid hr; clear hr
  have Hb := Lib.hid hb; clear hb
  go_enter Tryd.func61, Tryd.ntmps61
  go_wp2_with fail
  go_loop [7, 8] (fun v i => ∃ k : Nat, k ≤ l.length + 8 ∧ i = .int .i64 k ∧ v = .int .i64 (((l ++ List.replicate 8 0).take k).foldl lst8 0 : Nat)) (fun _ i => l.length + 8 - (intOf i).toNat)
  case atStart => exact ⟨0, by omega, rfl, rfl⟩
  case round =>
    obtain ⟨k, hk, rfl, rfl⟩ := hrel
    have Hlt : Hid (((l ++ List.replicate 8 0).take k).foldl lst8 0 < 256) := by
      refine lfold8_lt _ (fun b hb => ?_) 0 (by omega)
      have hb := List.mem_of_mem_take hb
      rcases List.mem_append.1 hb with h | h
      · exact Hb.out b h
      · have := List.eq_of_mem_replicate h; omega
    by_cases hkk : k < l.length + 8
    · have hk2 : k < (l ++ List.replicate 8 0).length := by simp; omega
      have Ht : Hid (((l ++ List.replicate 8 0).take (k + 1)).foldl lst8 0 = lst8 (((l ++ List.replicate 8 0).take k).foldl lst8 0) ((l ++ List.replicate 8 0)[k]'hk2)) := by
        show _ = _
        rw [List.take_succ_eq_append_getElem hk2, List.foldl_append]; rfl
      by_cases hkl : k < l.length
      · obtain ⟨b, o, rfl, hcell⟩ := Hr.out.at_ (j := k) (by rw [nv_length]; exact hkl)
        have e2 := nv_get l k hkl
        rw [List.getElem?_eq_getElem (by rw [nv_length]; exact hkl)] at e2
        rw [Option.some.inj e2] at hcell
        clear e2
        have hb1 := Hb.out _ (List.getElem_mem hkl)
        have eb : (l ++ List.replicate 8 0)[k]'hk2 = l[k] := List.getElem_append_left hkl
        rw [eb] at Ht
        clear eb
        generalize hq : ((l ++ List.replicate 8 0).take k).foldl lst8 0 = q at *
        clear hq
        generalize hx : l[k] = x at *
        clear hx
        have hlt0 := Hlt.out
        have Hlt0 := Lib.hid hlt0
        have hlt : q < 256 := hlt0
        clear hlt0
        by_cases h : (2 * q + x : Int) ≥ 256
        · have E := Lib.hid (xor_int8 q x Hlt0.out hb1 (by omega))
          go_wp2_with fail
          go_round
          case rel =>
            refine ⟨k + 1, by omega, by go_num, ?_⟩
            rw [Ht.out, ← E.out]
          case measure => simp [intOf] <;> omega
        · have E : Hid (lst8 q x = 2 * q + x) := if_neg (by omega)
          go_wp2_with fail
          go_round
          case rel =>
            refine ⟨k + 1, by omega, by go_num, ?_⟩
            rw [Ht.out, E.out]; go_num
          case measure => simp [intOf] <;> omega
      · have eb : (l ++ List.replicate 8 0)[k]'hk2 = 0 := by rw [List.getElem_append_right (by omega), List.getElem_replicate]
        rw [eb] at Ht
        clear eb
        generalize hq : ((l ++ List.replicate 8 0).take k).foldl lst8 0 = q at *
        clear hq
        have hlt0 := Hlt.out
        have Hlt0 := Lib.hid hlt0
        have hlt : q < 256 := hlt0
        clear hlt0
        by_cases h : (2 * q : Int) ≥ 256
        · have E := Lib.hid (xor_int8z q Hlt0.out (by omega))
          go_wp2_with fail
          go_round
          case rel =>
            refine ⟨k + 1, by omega, by go_num, ?_⟩
            rw [Ht.out, ← E.out]
          case measure => simp [intOf] <;> omega
        · have E : Hid (lst8 q 0 = 2 * q) := if_neg (by omega)
          go_wp2_with fail
          go_round
          case rel =>
            refine ⟨k + 1, by omega, by go_num, ?_⟩
            rw [Ht.out, E.out]; go_num
          case measure => simp [intOf] <;> omega
    · obtain rfl : k = l.length + 8 := by omega
      go_wp2_with fail
      go_ret
      refine ⟨ret_int ?_, Below.refl _ _⟩
      rw [List.take_of_length_le (by simp)]; rfl

set_option maxHeartbeats 800000 in
theorem refSum8_any (l : List UInt8) (A : Option Addr) (c : Nat) (w : World) (hr : Rd w A (bv l)) (hlen : l.length ≤ 1000000) :
    Calls Tryd.prog 42 #[.slice A l.length c] w fun e w' =>
      e = .returned (.int .i64 (lft8 (bitsOf l))) ∧ Below w.heap.size w w' := by
  have Hr := Lib.hid hr; clear hr
  go_enter Tryd.func42, Tryd.ntmps42
  go_wp2_with fail
  refine (Bits_any l A c _ Hr.out hlen).mono ?_
  rintro e w1 ⟨v, rfl, hown, hb1⟩
  obtain ⟨A1, c1, rfl, hc1, hr1⟩ := own_rd hown
  go_wp2_with fail
  rw [← bitsOf_length]
  refine (Left8_any (bitsOf l) (bitsOf_le l) A1 c1 _ hr1 (by rw [bitsOf_length]; omega)).mono ?_
  rintro e w2 ⟨rfl, hb2⟩
  go_wp2_with fail
  go_ret
  exact ⟨rfl, bnext hb1 hb2⟩

theorem shst_int8 (s : Nat) (hs : s < 256) (h : 256 ≤ 2 * s) : bits .xor .i64 (2 * (s : Int) - 256) 7 = ((lst8 s 0 : Nat) : Int) := xor_int8z s hs h
theorem rsh8_lt (s : Nat) (hs : s < 256) : ∀ k, it (fun s => lst8 s 0) k s < 256
  | 0 => hs
  | k + 1 => lst8_lt _ 0 (rsh8_lt s hs k) (by omega)
def lst16 (s b : Nat) : Nat := if 65536 ≤ 2 * s + b then (2 * s + b - 65536) ^^^ 32773 else 2 * s + b
def lft16 (l : List Nat) : Nat := (l ++ List.replicate 16 0).foldl lst16 0
theorem lst16_lt (s b : Nat) (hs : s < 65536) (hb : b ≤ 1) : lst16 s b < 65536 := by
  unfold lst16; split
  · exact Nat.xor_lt_two_pow (n := 16) (by omega) (by omega)
  · omega
theorem lfold16_lt (l : List Nat) (h : ∀ b ∈ l, b ≤ 1) (s : Nat) (hs : s < 65536) : l.foldl lst16 s < 65536 := by
  induction l generalizing s with
  | nil => exact hs
  | cons x l ih => exact ih (fun b hb => h b (List.mem_cons_of_mem _ hb)) _ (lst16_lt _ _ hs (h x (List.mem_cons_self ..)))
theorem xor_int16 (s b : Nat) (hs : s < 65536) (hb : b ≤ 1) (h : 65536 ≤ 2 * s + b) : bits .xor .i64 (2 * (s : Int) + b - 65536) 32773 = ((lst16 s b : Nat) : Int) := by
  rw [lst16, if_pos h, show (2 * (s : Int) + b - 65536) = ((2 * s + b - 65536 : Nat) : Int) from by omega]
  exact i64_xor_nat _ 32773 (by omega) (by omega)
theorem xor_int16z (s : Nat) (hs : s < 65536) (h : 65536 ≤ 2 * s) : bits .xor .i64 (2 * (s : Int) - 65536) 32773 = ((lst16 s 0 : Nat) : Int) := by
  have := xor_int16 s 0 hs (by omega) (by omega)
  simpa using this

set_option maxRecDepth 100000 in
set_option maxHeartbeats 800000 in
theorem Left16_any (l : List Nat) (hb : ∀ b ∈ l, b ≤ 1) (A : Option Addr) (c : Nat) (w : World) (hr : Rd w A (nv l)) (hlen : (l.length : Int) ≤ 100000000) :
    Calls Tryd.prog 61 #[.slice A l.length c, .int .i64 16, .int .i64 32773] w fun e w' =>
      e = .returned (.int .i64 (lft16 l)) ∧ Below w.heap.size w w' := by
  have Hr := Lib.hid hr; clear hr
  have Hb := Lib.hid hb; clear hb
  go_enter Tryd.func61, Tryd.ntmps61
  go_wp2_with fail
  go_loop [7, 8] (fun v i => ∃ k : Nat, k ≤ l.length + 16 ∧ i = .int .i64 k ∧ v = .int .i64 (((l ++ List.replicate 16 0).take k).foldl lst16 0 : Nat)) (fun _ i => l.length + 16 - (intOf i).toNat)
  case atStart => exact ⟨0, by omega, rfl, rfl⟩
  case round =>
    obtain ⟨k, hk, rfl, rfl⟩ := hrel
    have Hlt : Hid (((l ++ List.replicate 16 0).take k).foldl lst16 0 < 65536) := by
      refine lfold16_lt _ (fun b hb => ?_) 0 (by omega)
      have hb := List.mem_of_mem_take hb
      rcases List.mem_append.1 hb with h | h
      · exact Hb.out b h
      · have := List.eq_of_mem_replicate h; omega
    by_cases hkk : k < l.length + 16
    · have hk2 : k < (l ++ List.replicate 16 0).length := by simp; omega
      have Ht : Hid (((l ++ List.replicate 16 0).take (k + 1)).foldl lst16 0 = lst16 (((l ++ List.replicate 16 0).take k).foldl lst16 0) ((l ++ List.replicate 16 0)[k]'hk2)) := by
        show _ = _
        rw [List.take_succ_eq_append_getElem hk2, List.foldl_append]; rfl
      by_cases hkl : k < l.length
      · obtain ⟨b, o, rfl, hcell⟩ := Hr.out.at_ (j := k) (by rw [nv_length]; exact hkl)
        have e2 := nv_get l k hkl
        rw [List.getElem?_eq_getElem (by rw [nv_length]; exact hkl)] at e2
        rw [Option.some.inj e2] at hcell
        clear e2
        have hb1 := Hb.out _ (List.getElem_mem hkl)
        have eb : (l ++ List.replicate 16 0)[k]'hk2 = l[k] := List.getElem_append_left hkl
        rw [eb] at Ht
        clear eb
        generalize hq : ((l ++ List.replicate 16 0).take k).foldl lst16 0 = q at *
        clear hq
        generalize hx : l[k] = x at *
        clear hx
        have hlt0 := Hlt.out
        have Hlt0 := Lib.hid hlt0
        have hlt : q < 65536 := hlt0
        clear hlt0
        by_cases h : (2 * q + x : Int) ≥ 65536
        · have E := Lib.hid (xor_int16 q x Hlt0.out hb1 (by omega))
          go_wp2_with fail
          go_round
          case rel =>
            refine ⟨k + 1, by omega, by go_num, ?_⟩
            rw [Ht.out, ← E.out]
          case measure => simp [intOf] <;> omega
        · have E : Hid (lst16 q x = 2 * q + x) := if_neg (by omega)
          go_wp2_with fail
          go_round
          case rel =>
            refine ⟨k + 1, by omega, by go_num, ?_⟩
            rw [Ht.out, E.out]; go_num
          case measure => simp [intOf] <;> omega
      · have eb : (l ++ List.replicate 16 0)[k]'hk2 = 0 := by rw [List.getElem_append_right (by omega), List.getElem_replicate]
        rw [eb] at Ht
        clear eb
        generalize hq : ((l ++ List.replicate 16 0).take k).foldl lst16 0 = q at *
        clear hq
        have hlt0 := Hlt.out
        have Hlt0 := Lib.hid hlt0
        have hlt : q < 65536 := hlt0
        clear hlt0
        by_cases h : (2 * q : Int) ≥ 65536
        · have E := Lib.hid (xor_int16z q Hlt0.out (by omega))
          go_wp2_with fail
          go_round
          case rel =>
            refine ⟨k + 1, by omega, by go_num, ?_⟩
            rw [Ht.out, ← E.out]
          case measure => simp [intOf] <;> omega
        · have E : Hid (lst16 q 0 = 2 * q) := if_neg (by omega)
          go_wp2_with fail
          go_round
          case rel =>
            refine ⟨k + 1, by omega, by go_num, ?_⟩
            rw [Ht.out, E.out]; go_num
          case measure => simp [intOf] <;> omega
    · obtain rfl : k = l.length + 16 := by omega
      go_wp2_with fail
      go_ret
      refine ⟨ret_int ?_, Below.refl _ _⟩
      rw [List.take_of_length_le (by simp)]; rfl

theorem shst_int16 (s : Nat) (hs : s < 65536) (h : 65536 ≤ 2 * s) : bits .xor .i64 (2 * (s : Int) - 65536) 32773 = ((lst16 s 0 : Nat) : Int) := xor_int16z s hs h
theorem rsh16_lt (s : Nat) (hs : s < 65536) : ∀ k, it (fun s => lst16 s 0) k s < 65536
  | 0 => hs
  | k + 1 => lst16_lt _ 0 (rsh16_lt s hs k) (by omega)
end Go.Proofs.YtgohfbfdhdepnaaDoor.C2

namespace Go.Proofs.YtgohfbfdhdepnaaDoor.C2
open Crc (bits8 bitsOf bits8_le bitsOf_le)

theorem step8_eq : step8 = Crc.L 256 263 := rfl
theorem step16_eq : step16 = Crc.L 65536 98309 := rfl
theorem lst8_eq : lst8 = Crc.lst 256 7 := rfl
theorem lst16_eq : lst16 = Crc.lst 65536 32773 := rfl
theorem nxt8_eq (s x : Nat) : nxt8 s x = Crc.nxt 256 263 (2 ^ (8 - 8)) s x := by
  unfold nxt8 Crc.nxt one8
  rw [step8_eq, show (255 : Nat) = 2 ^ 8 - 1 from rfl, Nat.and_two_pow_sub_one_eq_mod]
  simp
theorem nxt16_eq (s x : Nat) : nxt16 s x = Crc.nxt 65536 98309 (2 ^ (16 - 8)) s x := by
  unfold nxt16 Crc.nxt one16
  rw [step16_eq, show (65535 : Nat) = 2 ^ 16 - 1 from rfl, Nat.and_two_pow_sub_one_eq_mod]
theorem crc8_eq (s : Nat) (l : List UInt8) : crc8 s l = Crc.crc 256 263 (2 ^ (8 - 8)) s l := by
  unfold crc8 Crc.crc
  congr 1
  funext s x
  exact nxt8_eq _ _
theorem crc16_eq (s : Nat) (l : List UInt8) : crc16 s l = Crc.crc 65536 98309 (2 ^ (16 - 8)) s l := by
  unfold crc16 Crc.crc
  congr 1
  funext s x
  exact nxt16_eq _ _
theorem tells8 (l : List UInt8) : crc8 0 l = lft8 (bitsOf l) := by rw [crc8_eq, Crc.p8.tells]; rfl
theorem tells16 (l : List UInt8) : crc16 0 l = lft16 (bitsOf l) := by rw [crc16_eq, Crc.p16.tells]; rfl

end Go.Proofs.YtgohfbfdhdepnaaDoor.C2

namespace Go.Proofs.YtgohfbfdhdepnaaDoor.Crc
open Go.Proofs.YtgohfbfdhdepnaaDoor
section
variable {W M P p : Nat}
theorem Pm.nxt_split (h : Pm W M P p) (s x : Nat) (hs : s < M) (hx : x < 256) : nxt M P (2 ^ (W - 8)) s x = it (L M P) 8 s ^^^ nxt M P (2 ^ (W - 8)) 0 x := by
  have hb : x * 2 ^ (W - 8) < M := by rw [h.K]; exact Nat.mul_lt_mul_of_pos_right hx (Nat.two_pow_pos _)
  rw [h.nxt_eq s x hs hx, h.nxt_eq 0 x (by have := h.pos; omega) hx, h.it_xor 8 _ _ hs hb, Nat.zero_xor]
/-- The sum of two texts. -/
theorem Pm.join (h : Pm W M P p) (l : List UInt8) : ∀ s, s < M → crc M P (2 ^ (W - 8)) s l = it (L M P) (8 * l.length) s ^^^ crc M P (2 ^ (W - 8)) 0 l := by
  have hp := h.pos
  induction l with
  | nil => intro s hs; simp [crc, it]
  | cons x l ih =>
    intro s hs
    have hx : x.toNat < 256 := by have := x.toNat_lt; omega
    have h0 := h.nxt_lt 0 x.toNat (by omega) hx
    show crc M P _ (nxt M P _ s x.toNat) l = _ ^^^ crc M P _ (nxt M P _ 0 x.toNat) l
    rw [ih _ (h.nxt_lt s _ hs hx), ih _ h0, h.nxt_split s _ hs hx, h.it_xor _ _ _ (h.it_lt 8 s hs) h0, Nat.xor_assoc, ← it_add]
    congr 1
theorem Pm.seal (h : Pm W M P p) (s x : Nat) (hs : s < M) (hx : x < 256) (e : s = x * 2 ^ (W - 8)) : nxt M P (2 ^ (W - 8)) s x = 0 := by
  have h0 : it (L M P) 8 0 = 0 := by
    have hp := h.pos
    have := it_low (M := M) (P := P) 8 0 (by rw [Nat.zero_mul]; exact Nat.lt_of_lt_of_le (by decide) hp)
    rw [this, Nat.zero_mul]
  rw [h.nxt_eq s x hs hx, ← e, Nat.xor_self, h0]
theorem Pm.seal2 (h : Pm W M P p) (hK : 2 ^ (W - 8) = 256) (s : Nat) (hs : s < M) : nxt M P (2 ^ (W - 8)) (nxt M P (2 ^ (W - 8)) s (s / 256)) (s % 256) = 0 := by
  have hM := h.K
  rw [hK] at hM
  have e : nxt M P (2 ^ (W - 8)) s (s / 256) = (s % 256) * 2 ^ (W - 8) := by
    rw [h.nxt_eq s _ hs (by omega)]
    have h1 := xor_add 8 (s / 256) (s % 256) (Nat.mod_lt _ (by decide))
    have h2 : 2 ^ 8 * (s / 256) + s % 256 = s := Nat.div_add_mod s 256
    rw [h2] at h1
    have h3 : s ^^^ (s / 256 * 2 ^ (W - 8)) = s % 256 := by
      conv => lhs; lhs; rw [h1]
      rw [hK, show (2 : Nat) ^ 8 = 256 from rfl, Nat.mul_comm (s / 256), Nat.xor_comm (256 * (s / 256)), Nat.xor_assoc, Nat.xor_self, Nat.xor_zero]
    rw [h3, it_low 8 _ (by omega), hK]
  rw [e]
  exact h.seal _ _ (by rw [hK]; omega) (by omega) rfl
end
end Go.Proofs.YtgohfbfdhdepnaaDoor.Crc

namespace Go.Proofs.YtgohfbfdhdepnaaDoor.C2
open Go.RowKit

theorem Sum8_one {w0 W : World} {v : Value} {l : List UInt8} (h : BS w0 v l) (hb : Below w0.heap.size w0 W) {H : Nat} (hH : W.heap.size = H) (hl : l.length < 4611686018427387904) :
    Calls Tryd.prog 31 #[.slice (some ⟨H, 0, none⟩) 1 1] (W.alloc (.cells #[v] 28)) fun e w' => e = .returned (.int .i64 (crc8 0 l)) ∧ Below W.heap.size W w' := by
  have hB : BSS (W.alloc (.cells #[v] 28)) (.slice (some ⟨H, 0, none⟩) 1 1) [l] := BSS.one (w := W) (h.below hb) _ hH
  refine (Sum8_any [l] _ _ _ hB (by simp) (by simpa using hl)).mono ?_
  rintro e w1 ⟨rfl, hb1⟩
  exact ⟨by simp, bnext (by repeat (first | exact Below.refl _ _ | assumption | refine below_drewN ?_ _ | refine Below.drew ?_ | refine Below.alloc ?_ (Nat.le_refl _) _ | refine bal ?_ _ | refine bnext ?_ (by assumption))) hb1⟩
theorem Sum8_two {w0 W : World} {v v' : Value} {l l' : List UInt8} (h : BS w0 v l) (h' : BS w0 v' l') (hb : Below w0.heap.size w0 W) {H : Nat} (hH : W.heap.size = H) (hl : l.length < 4611686018427387904) (hl' : l'.length < 4611686018427387904) :
    Calls Tryd.prog 31 #[.slice (some ⟨H, 0, none⟩) 2 2] (W.alloc (.cells #[v, v'] 28)) fun e w' => e = .returned (.int .i64 (crc8 0 (l ++ l'))) ∧ Below W.heap.size W w' := by
  have hB : BSS (W.alloc (.cells #[v, v'] 28)) (.slice (some ⟨H, 0, none⟩) 2 2) [l, l'] := BSS.two (w := W) (h.below hb) (h'.below hb) _ hH
  refine (Sum8_any [l, l'] _ _ _ hB (by simp) (by intro x hx; simp at hx; rcases hx with rfl | rfl <;> assumption)).mono ?_
  rintro e w1 ⟨rfl, hb1⟩
  exact ⟨by simp, bnext (by repeat (first | exact Below.refl _ _ | assumption | refine below_drewN ?_ _ | refine Below.drew ?_ | refine Below.alloc ?_ (Nat.le_refl _) _ | refine bal ?_ _ | refine bnext ?_ (by assumption))) hb1⟩

theorem join8 (a b : List UInt8) : crc8 0 (a ++ b) = it step8 (8 * b.length) (crc8 0 a) ^^^ crc8 0 b := by
  rw [crc8_append, crc8_eq (crc8 0 a), crc8_eq 0 b, Crc.p8.join b _ (by have := crc8_lt 0 (by omega) a; omega)]; rfl
theorem join16 (a b : List UInt8) : crc16 0 (a ++ b) = it step16 (8 * b.length) (crc16 0 a) ^^^ crc16 0 b := by
  have h := crc16_lt 0 (by decide) a
  rw [crc16_append, crc16_eq (crc16 0 a), crc16_eq 0 b, Crc.p16.join b _ h, ← step16_eq]
theorem seal8 (a : List UInt8) : crc8 0 (a ++ [UInt8.ofNat (crc8 0 a)]) = 0 := by
  have h := crc8_lt 0 (by omega) a
  rw [crc8_snoc, UInt8.toNat_ofNat', Nat.mod_eq_of_lt (by omega), nxt8_eq]
  exact Crc.p8.seal _ _ h h (by simp)
theorem seal16 (a : List UInt8) : crc16 0 (a ++ [UInt8.ofNat (crc16 0 a / 256), UInt8.ofNat (crc16 0 a)]) = 0 := by
  have h := crc16_lt 0 (by decide) a
  have e : a ++ [UInt8.ofNat (crc16 0 a / 256), UInt8.ofNat (crc16 0 a)] = (a ++ [UInt8.ofNat (crc16 0 a / 256)]) ++ [UInt8.ofNat (crc16 0 a)] := by simp
  rw [e, crc16_snoc, crc16_snoc, UInt8.toNat_ofNat', UInt8.toNat_ofNat', nxt16_eq, nxt16_eq]
  generalize crc16 0 a = s at h
  rw [Nat.mod_eq_of_lt (show s / 256 < 2 ^ 8 from by omega)]
  exact Crc.p16.seal2 rfl s h
end Go.Proofs.YtgohfbfdhdepnaaDoor.C2

namespace Go.Proofs.YtgohfbfdhdepnaaDoor
open Go.RowKit

/-- What stands behind the first statements of a sequence. -/
def cdrC : Nat → Code → Code
  | 0, c => c
  | n + 1, .seq _ b => cdrC n b
  | _ + 1, c => c
noncomputable def rdBody : Code := (Tryd.f18.body).getD .skip

set_option maxRecDepth 1000000 in
set_option maxHeartbeats 4000000 in
theorem tail18 (l : List UInt8) (A : Option Addr) (c : Nat) (w : World) (hl : l.length ≤ 1000) (hc : l.length ≤ c) (w1 : World) (Hb1 : Hid (Below w.heap.size w w1)) (HRd : Hid (Rd w1 A (bv l))) (Q R t8 : Nat) (A' : Option Addr) (c' : Nat) (W : World) (e8 : Int) (B2 : Nat) (V : Bool) (p2 q2 p3 m3 N S : Nat) (bb rr kd : Int)
    (H18 : Hid (Hr w1 W Q R t8 A' (l.take 16) c' e8 w.heap.size B2 ⟨V, p2, q2, p3, m3, N, bb, rr, kd⟩))
    (HR : Hid (∀ (e : Int) (x : Hd) (n : Nat) (f : Int), e = wrE (tqE (l.take 16) t8 e8 8) ((tqV (l.take 16) t8 e8 8 : Int) != (C2.crc8 0 (l.take (t8 / 8)) : Nat)) 15 →
      (e ≠ 0 ∧ x = Hd.zero ∧ n = 0 ∧ f = e ∨ e = 0 ∧ x = ⟨V, p2, q2, p3, m3, N, bb, rr, kd⟩ ∧ n = t8 / 8 + 1 ∧ f = 0) → ReadRel l x n f))
    (v1 v9 v10 v11 v12 v13 u14 u15 u16 u17 u18 u19 u20 u21 u22 u23 u24 u25 u26 u27 u28 u29 u30 u31 u32 u33 u34 u35 u36 u37 u38 u39 u40 u41 u42 u43 u44 u45 u46 u47 u48 u49 u50 u51 u52 u53 u54 u55 u56 u57 u58 u59 u60 u61 u62 u63 u64 u65 u66 u67 u68 u69 u70 u71 u72 u73 u74 u75 u76 u77 u78 u79 u80 u81 u82 u83 u84 u85 u86 u87 u88 u89 u90 u91 u92 u93 u94 u95 u96 u97 u98 u99 u100 u101 u102 u103 u104 u105 u106 u107 u108 u109 u110 u111 u112 u113 u114 u115 u116 u117 u118 u119 u120 u121 u122 u123 u124 u125 u126 u127 u128 u129 u130 u131 u132 u133 u134 u135 u136 u137 u138 u139 u140 : Value) :
    Code.wp Tryd.prog (cdrC 11 rdBody) (bodyPost Tryd.prog Tryd.f18 fun z w' => ∃ (x : Hd) (n : Nat) (f : Int), z = .returned (.tuple #[x.val, .int .i64 n, .int .i64 f]) ∧ ReadRel l x n f ∧ Below w.heap.size w w') ⟨#[.slice A l.length c, v1, .pointer (some ⟨w.heap.size, 0, none⟩), .int .i64 0, .int .i64 0, .pointer (some ⟨Q, 0, none⟩), .pointer (some ⟨B2, 0, none⟩), .int .i64 (N : Int), .int .i64 (S : Int), v9, v10, v11, v12, v13, u14, u15, u16, u17, u18, u19, u20, u21, u22, u23, u24, u25, u26, u27, u28, u29, u30, u31, u32, u33, u34, u35, u36, u37, u38, u39, u40, u41, u42, u43, u44, u45, u46, u47, u48, u49, u50, u51, u52, u53, u54, u55, u56, u57, u58, u59, u60, u61, u62, u63, u64, u65, u66, u67, u68, u69, u70, u71, u72, u73, u74, u75, u76, u77, u78, u79, u80, u81, u82, u83, u84, u85, u86, u87, u88, u89, u90, u91, u92, u93, u94, u95, u96, u97, u98, u99, u100, u101, u102, u103, u104, u105, u106, u107, u108, u109, u110, u111, u112, u113, u114, u115, u116, u117, u118, u119, u120, u121, u122, u123, u124, u125, u126, u127, u128, u129, u130, u131, u132, u133, u134, u135, u136, u137, u138, u139, u140], []⟩ W := by
  conv => arg 2; whnf
  have HAt := Lib.hid (At_any R t8 A' (l.take 16).length c' W H18.out.rq.rd.row)
  have hlt : (l.take 16).length = min 16 l.length := List.length_take
  have hle := H18.out.rq.rd.le
  obtain ⟨at_, hat⟩ : ∃ a : Nat, t8 / 8 = a := ⟨_, rfl⟩
  have hati : (t8 : Int) / 8 = (at_ : Int) := by omega
  have hatl : at_ ≤ l.length := by omega
  have hatc : (at_ : Int) ≤ c := by omega
  rw [hat] at HR
  clear hlt hle hat
  have k0 := H18.out.rq.c0
  go_wp2_with fail
  refine HAt.out.mono ?_
  rintro z w18 ⟨rfl, hb18⟩
  have H19 := Lib.hid (H18.out.below hb18)
  have HTk := Lib.hid (take_any Q R t8 A' (l.take 16) c' e8 8 w1 w18 H19.out.rq)
  clear hb18 HAt H18 k0
  generalize tqV (l.take 16) t8 e8 8 = v at *
  generalize tqT (l.take 16) t8 e8 8 = t9 at *
  generalize tqE (l.take 16) t8 e8 8 = e9 at *
  go_wp2_with fail
  refine HTk.out.mono ?_
  rintro z w19 ⟨rfl, hq, hf⟩
  have H20 := Lib.hid (H19.out.step hq hf)
  clear hq hf HTk H19 hati
  have hS : BS w1 (.slice A at_ c) (l.take at_) := by
    refine ⟨A, c, by rw [List.length_take, Nat.min_eq_left hatl], by rw [List.length_take]; omega, ?_⟩
    have h := HRd.out.take at_
    rwa [show (bv l).take at_ = bv (l.take at_) from by simp [bv]] at h
  have HSm := Lib.hid (C2.Sum8_one hS H20.out.rq.b rfl (by rw [List.length_take]; omega))
  generalize C2.crc8 0 (l.take at_) = s8 at *
  clear hS
  go_wp2_with fail
  refine HSm.out.mono ?_
  rintro z w20 ⟨rfl, hb20⟩
  have H21 := Lib.hid (H20.out.below hb20)
  clear hb20 HSm H20 hatc
  have HW := Lib.hid (fun b => wrongR_any Q R t9 A' (l.take 16) c' e9 b 15 w1 w20 H21.out.rq)
  go_wp2_with fail
  refine (HW.out _).mono ?_
  rintro z w21 ⟨⟨q, rfl⟩, hq, hf⟩
  have H22 := Lib.hid (H21.out.step hq hf)
  clear hq hf H21 HW
  have HRR : Hid (∀ (x : Hd) (n : Nat) (f : Int), (wrE e9 ((v : Int) != (s8 : Int)) 15 ≠ 0 ∧ x = Hd.zero ∧ n = 0 ∧ f = wrE e9 ((v : Int) != (s8 : Int)) 15 ∨ wrE e9 ((v : Int) != (s8 : Int)) 15 = 0 ∧ x = ⟨V, p2, q2, p3, m3, N, bb, rr, kd⟩ ∧ n = at_ + 1 ∧ f = 0) → ReadRel l x n f) := fun x n f h => HR.out _ x n f rfl h
  generalize wrE e9 ((v : Int) != (s8 : Int)) 15 = e10 at *
  clear HR
  have k0 := H22.out.rq.c1
  by_cases he : e10 = 0
  case neg =>
    have he' : (e10 != 0) = true := by rw [bne_iff_ne]; exact he
    have RR := HRR.out Hd.zero 0 e10 (.inl ⟨he, rfl, rfl, rfl⟩)
    go_upto_region 22 with fail
    clear k0
    refine wp_region_headN (fun W' => W'.cell? ⟨Q, 1, none⟩ = some (.int .i64 e10)) 5 3 (by kernel_rfl) rfl (by kernel_rfl) (H22.out.rq.c1) ?_
    simp only [List.take_succ_cons, List.take_zero]
    refine' wpHead_op _ (by rfl) ?hv1 ?hrest1
    case hv1 => (intro w' hS'; (try dsimp only at hS'); go_simp; try with_reducible rfl)
    try simp only [Act.put, List.setIfInBounds_toArray, List.set_cons_zero, List.set_cons_succ]
    refine' wpHead_op _ (by rfl) ?hv2 ?hrest2
    case hv2 => (intro w' hS'; (try dsimp only at hS'); go_simp; try with_reducible rfl)
    try simp only [Act.put, List.setIfInBounds_toArray, List.set_cons_zero, List.set_cons_succ]
    refine' wpHead_op _ (by rfl) ?hv3 ?hrest3
    case hv3 => (intro w' hS'; (try dsimp only at hS'); go_simp; try with_reducible rfl)
    try simp only [Act.put, List.setIfInBounds_toArray, List.set_cons_zero, List.set_cons_succ]
    refine' wpHead_op _ (by rfl) ?hv4 ?hrest4
    case hv4 => (intro w' hS'; (try dsimp only at hS'); go_simp; try with_reducible rfl)
    try simp only [Act.put, List.setIfInBounds_toArray, List.set_cons_zero, List.set_cons_succ]
    refine' wpHead_op _ (by rfl) ?hv5 ?hrest5
    case hv5 => (intro w' hS'; (try dsimp only at hS'); go_simp; try with_reducible rfl)
    try simp only [Act.put, List.setIfInBounds_toArray, List.set_cons_zero, List.set_cons_succ]
    refine wpHead_nil ?_
    refine wpAnyH_next (i := 5) (by kernel_rfl) rfl (by rfl) (fun K hK => ?_)
    refine wp_store_row' (c := Hd.zero.cells) (c' := Hd.zero.cells) (t := 23) 23 _ _ rfl w.heap.size rfl rfl H22.out.z (by kernel_rfl) rfl (Hd.one _) ?_
    intro wz hwz
    have hSz : wz.cell? ⟨Q, 1, none⟩ = some (.int .i64 e10) := by rw [← hwz]; exact (World.cell?_of_block (setRow_other _ _ _ _ (fun k => H22.out.n1.1 k.symm))).trans H22.out.rq.c1
    have hRz : wz.heap[w.heap.size]? = some (.cells Hd.zero.cells 23 (0, 0)) := by rw [← hwz]; exact setRow_heap _ w.heap.size _ _ 23 (0, 0) H22.out.z
    have hBz : Below w.heap.size w wz := by rw [← hwz]; exact Below.setRow ((bnext Hb1.out H22.out.rq.b).drew) (Nat.le_refl _) _
    clear hwz
    refine hK.out _ _ hSz ?_
    clear hK K
    try simp only [Act.put, List.setIfInBounds_toArray, List.set_cons_zero, List.set_cons_succ]
    refine wpAnyH_next (i := 6) (by kernel_rfl) rfl (by rfl) (fun K hK => ?_)
    go_simp
    refine hK.out _ _ hSz ?_
    clear hK K
    try simp only [Act.put, List.setIfInBounds_toArray, List.set_cons_zero, List.set_cons_succ]
    refine wpAnyH_next (i := 7) (by kernel_rfl) rfl (by rfl) (fun K hK => ?_)
    go_simp
    refine hK.out _ _ hSz ?_
    clear hK K
    try simp only [Act.put, List.setIfInBounds_toArray, List.set_cons_zero, List.set_cons_succ]
    refine wpAnyH_doneN (by kernel_rfl) ?_
    go_wp2_with fail
    exact bodyPost_ret (results_row_tmp2 Tryd.results18 _ _ _ _ rfl rfl rfl hRz Tryd.underlying23 rfl (by kernel_rfl)) rfl ⟨Hd.zero, 0, _, rfl, RR, hBz⟩
  case pos =>
    subst he
    have RR := HRR.out _ _ _ (.inr ⟨rfl, rfl, rfl, rfl⟩)
    go_wp2_with (first | (refine wpList_load_row rfl 23 _ rfl B2 rfl 23 _ (0, 0) _ H22.out.h Tryd.underlying23 rfl (by kernel_rfl) ?_) | (refine wpList_store_row (c := Hd.zero.cells) (c' := Hd.cells ⟨V, p2, q2, p3, m3, N, bb, rr, kd⟩) (t := 23) rfl 23 _ _ rfl w.heap.size rfl rfl H22.out.z (by kernel_rfl) rfl (Hd.one _) ?_))
    exact bodyPost_ret (results_row_tmp2 Tryd.results18 _ _ _ _ rfl rfl rfl (setRow_heap _ w.heap.size _ _ 23 (0, 0) H22.out.z) Tryd.underlying23 rfl (by kernel_rfl)) rfl ⟨_, _, _, rfl, RR, Below.setRow (bnext Hb1.out H22.out.rq.b) (Nat.le_refl _) _⟩
end Go.Proofs.YtgohfbfdhdepnaaDoor

namespace Go.Proofs.YtgohfbfdhdepnaaDoor
open Go.RowKit

set_option maxRecDepth 1000000 in
set_option maxHeartbeats 4000000 in
theorem tail15 (l : List UInt8) (A : Option Addr) (c : Nat) (w : World) (hl : l.length ≤ 1000) (hc : l.length ≤ c) (w1 : World) (Hb1 : Hid (Below w.heap.size w w1)) (HRd : Hid (Rd w1 A (bv l))) (Q R t6 : Nat) (A' : Option Addr) (c' : Nat) (W : World) (e7 : Int) (B2 : Nat) (V : Bool) (p2 q2 p3 m3 N S : Nat) (bb kr kd : Int)
    (H16 : Hid (Hr w1 W Q R t6 A' (l.take 16) c' e7 w.heap.size B2 ⟨V, p2, q2, p3, m3, N, bb, kr, kd⟩)) (Hkr : Hid (ratL.getD q2 0 = kr)) (bq2 : q2 < 16)
    (HR : Hid (∀ (rr : Int) (t8 : Nat) (e8 : Int), RatRel (l.take 16) q2 t6 e7 rr t8 e8 → ∀ (e : Int) (x : Hd) (n : Nat) (f : Int), e = wrE (tqE (l.take 16) t8 e8 8) ((tqV (l.take 16) t8 e8 8 : Int) != (C2.crc8 0 (l.take (t8 / 8)) : Nat)) 15 →
      (e ≠ 0 ∧ x = Hd.zero ∧ n = 0 ∧ f = e ∨ e = 0 ∧ x = ⟨V, p2, q2, p3, m3, N, bb, rr, kd⟩ ∧ n = t8 / 8 + 1 ∧ f = 0) → ReadRel l x n f))
    (v1 v9 v10 v11 v12 v13 u14 u15 u16 u17 u18 u19 u20 u21 u22 u23 u24 u25 u26 u27 u28 u29 u30 u31 u32 u33 u34 u35 u36 u37 u38 u39 u40 u41 u42 u43 u44 u45 u46 u47 u48 u49 u50 u51 u52 u53 u54 u55 u56 u57 u58 u59 u60 u61 u62 u63 u64 u65 u66 u67 u68 u69 u70 u71 u72 u73 u74 u75 u76 u77 u78 u79 u80 u81 u82 u83 u84 u85 u86 u87 u88 u89 u90 u91 u92 u93 u94 u95 u96 u97 u98 u99 u100 u101 u102 u103 u104 u105 u106 u107 u108 u109 u110 u111 u112 u113 u114 u115 u116 u117 u118 u119 u120 u121 u122 u123 u124 u125 u126 u127 u128 u129 u130 u131 u132 u133 u134 u135 u136 u137 u138 u139 u140 : Value) :
    Code.wp Tryd.prog (cdrC 10 rdBody) (bodyPost Tryd.prog Tryd.f18 fun z w' => ∃ (x : Hd) (n : Nat) (f : Int), z = .returned (.tuple #[x.val, .int .i64 n, .int .i64 f]) ∧ ReadRel l x n f ∧ Below w.heap.size w w') ⟨#[.slice A l.length c, v1, .pointer (some ⟨w.heap.size, 0, none⟩), .int .i64 0, .int .i64 0, .pointer (some ⟨Q, 0, none⟩), .pointer (some ⟨B2, 0, none⟩), .int .i64 (N : Int), .int .i64 (S : Int), v9, v10, v11, v12, v13, u14, u15, u16, u17, u18, u19, u20, u21, u22, u23, u24, u25, u26, u27, u28, u29, u30, u31, u32, u33, u34, u35, u36, u37, u38, u39, u40, u41, u42, u43, u44, u45, u46, u47, u48, u49, u50, u51, u52, u53, u54, u55, u56, u57, u58, u59, u60, u61, u62, u63, u64, u65, u66, u67, u68, u69, u70, u71, u72, u73, u74, u75, u76, u77, u78, u79, u80, u81, u82, u83, u84, u85, u86, u87, u88, u89, u90, u91, u92, u93, u94, u95, u96, u97, u98, u99, u100, u101, u102, u103, u104, u105, u106, u107, u108, u109, u110, u111, u112, u113, u114, u115, u116, u117, u118, u119, u120, u121, u122, u123, u124, u125, u126, u127, u128, u129, u130, u131, u132, u133, u134, u135, u136, u137, u138, u139, u140], []⟩ W := by
  conv => arg 2; whnf
  have f7 := H16.out.h.c 7 (.int .i64 kr) rfl
  go_upto_if 98 with fail
  go_cut [10, 11] (fun _ _ wx => ∃ (rr : Int) (t8 : Nat) (e8 : Int), RatRel (l.take 16) q2 t6 e7 rr t8 e8 ∧ Hr w1 wx Q R t8 A' (l.take 16) c' e8 w.heap.size B2 ⟨V, p2, q2, p3, m3, N, bb, rr, kd⟩)
  case first =>
    by_cases hk : kr = -2
    · have hv := tqV_ltN (l.take 16) t6 e7 (unN q2)
      have hun : unN q2 ≤ 16 := by unfold unN; split <;> omega
      have hu : 0 ≤ unU q2 ∧ unU q2 ≤ 1000 := by unfold unU; (repeat' split) <;> omega
      have hv16 : tqV (l.take 16) t6 e7 (unN q2 : Nat) < 65536 := Nat.lt_of_lt_of_le hv (Nat.pow_le_pow_right (n := 2) (by omega) hun)
      have HTk := Lib.hid (take_any Q R t6 A' (l.take 16) c' e7 (unN q2 : Nat) w1 W H16.out.rq)
      have HUn := Lib.hid (fun W => unit_any (q2 : Int) W)
      have HR4 : Hid (∀ rr : Int, (tqV (l.take 16) t6 e7 (unN q2 : Nat) : Int) * unU q2 = rr → RatRel (l.take 16) q2 t6 e7 rr (tqT (l.take 16) t6 e7 (unN q2 : Nat)) (tqE (l.take 16) t6 e7 (unN q2 : Nat))) := fun rr hb => .inl ⟨Hkr.out.trans hk, hb.symm, rfl, rfl⟩
      clear hv
      generalize tqV (l.take 16) t6 e7 (unN q2 : Nat) = v at *
      generalize tqT (l.take 16) t6 e7 (unN q2 : Nat) = t8 at *
      generalize tqE (l.take 16) t6 e7 (unN q2 : Nat) = e8 at *
      generalize unN q2 = un at *
      generalize unU q2 = uu at *
      obtain ⟨rr, hrr⟩ : ∃ m : Int, (v : Int) * uu = m := ⟨_, rfl⟩
      have HR5 := Lib.hid (HR4.out rr hrr)
      have hr0 : 0 ≤ rr := by rw [← hrr]; exact Int.mul_nonneg (by omega) hu.1
      have hr1 : rr ≤ 65536 * 1000 := by rw [← hrr]; exact Int.mul_le_mul (by omega) hu.2 hu.1 (by omega)
      clear hun hu hv16 HR4
      have f2 := H16.out.h.c 2 (.int .i64 q2) rfl
      go_wp2_with fail
      refine (HUn.out _).mono ?_
      rintro z wu ⟨rfl, rfl⟩
      go_wp2_with fail
      refine HTk.out.mono ?_
      rintro z w16 ⟨rfl, hq, hf⟩
      have H17 := Lib.hid (H16.out.step hq hf)
      clear hq hf HTk f2 f7 HUn
      have f7 := H17.out.h.c 7 (.int .i64 kr) rfl
      have g7 := H17.out.fz 7
      have H18 := Lib.hid (H17.out.set 7 (.int .i64 rr) ⟨V, p2, q2, p3, m3, N, bb, rr, kd⟩ rfl)
      go_wp2_with fail
      go_meet
      exact ⟨rr, t8, e8, HR5.out, H18.out⟩
    · have HBB : Hid (RatRel (l.take 16) q2 t6 e7 kr t6 e7) := by
        show RatRel (l.take 16) q2 t6 e7 kr t6 e7
        unfold RatRel
        rw [Hkr.out]
        exact .inr ⟨hk, rfl, rfl, rfl⟩
      go_wp2_with fail
      go_meet
      exact ⟨kr, t6, e7, HBB.out, H16.out⟩
  case rest =>
    obtain ⟨rr, t8, e8, hR, hH⟩ := hcut
    go_step
    exact tail18 l A c w hl hc w1 Hb1 HRd Q R t8 A' c' _ e8 B2 V p2 q2 p3 m3 N S bb rr kd hH (HR.out rr t8 e8 hR) _ _ _ _ _ _ _ _ _ _ _ _ _ _ _ _ _ _ _ _ _ _ _ _ _ _ _ _ _ _ _ _ _ _ _ _ _ _ _ _ _ _ _ _ _ _ _ _ _ _ _ _ _ _ _ _ _ _ _ _ _ _ _ _ _ _ _ _ _ _ _ _ _ _ _ _ _ _ _ _ _ _ _ _ _ _ _ _ _ _ _ _ _ _ _ _ _ _ _ _ _ _ _ _ _ _ _ _ _ _ _ _ _ _ _ _ _ _ _ _ _ _ _ _ _ _ _ _ _ _ _ _ _ 
end Go.Proofs.YtgohfbfdhdepnaaDoor
