/-
  Plain laws of the sums: the step is linear over xor; the sum byte by byte is that of bits, with noughts behind them.
-/
import Derived.Test.YticfmhmkgcdhgaaBo1
set_option linter.unusedSimpArgs false
set_option linter.unusedVariables false
namespace Go.Proofs.Yticfmhmkgcdhgaa.Crc
open Go.Proofs.Yticfmhmkgcdhgaa

/-- One nought more behind a sum of W bits; P: the polynomial with its first one, M = 2^W. -/
def L (M P : Nat) (s : Nat) : Nat := if M ≤ 2 * s then (2 * s) ^^^ P else 2 * s
/-- The same, one bit more behind. -/
def lst (M p : Nat) (s b : Nat) : Nat := if M ≤ 2 * s + b then (2 * s + b - M) ^^^ p else 2 * s + b

theorem two_mul_xor (a b : Nat) : 2 * (a ^^^ b) = (2 * a) ^^^ (2 * b) := by
  have h : ∀ n : Nat, 2 * n = n <<< 1 := fun n => by rw [Nat.shiftLeft_eq]; omega
  rw [h, h, h, Nat.shiftLeft_xor_distrib]
theorem mul_pow_xor (a b k : Nat) : (a ^^^ b) * 2 ^ k = (a * 2 ^ k) ^^^ (b * 2 ^ k) := by
  rw [← Nat.shiftLeft_eq, ← Nat.shiftLeft_eq, ← Nat.shiftLeft_eq, Nat.shiftLeft_xor_distrib]
theorem high_bit (W s : Nat) (hs : s < 2 ^ (W + 1)) : s.testBit W = decide (2 ^ W ≤ s) := by
  by_cases h : 2 ^ W ≤ s
  · rw [decide_eq_true h]
    have e : s = 2 ^ W + (s - 2 ^ W) := by omega
    rw [e, Nat.testBit_two_pow_add_eq, Nat.testBit_lt_two_pow (by rw [Nat.pow_succ] at hs; omega)]
    rfl
  · rw [decide_eq_false h, Nat.testBit_lt_two_pow (by omega)]
theorem xor_add (W a b : Nat) (hb : b < 2 ^ W) : 2 ^ W * a + b = (2 ^ W * a) ^^^ b := by
  refine Nat.eq_of_testBit_eq fun i => ?_
  rw [Nat.testBit_xor, Nat.testBit_two_pow_mul_add _ hb, Nat.testBit_two_pow_mul]
  by_cases h : i < W
  · simp [h, show ¬ W ≤ i from by omega]
  · rw [Nat.testBit_lt_two_pow (x := b) (i := i) (Nat.lt_of_lt_of_le hb (Nat.pow_le_pow_right (by decide) (by omega)))]
    simp [h, show W ≤ i from by omega]

/-- The numbers of a sum of W bits: M = 2^W, P = M + p. -/
structure Pm (W M P p : Nat) : Prop where
  m : M = 2 ^ W
  s : P = M + p
  l : p < M
  w : 8 ≤ W

section
variable {W M P p : Nat}
theorem Pm.pos (h : Pm W M P p) : 256 ≤ M := by rw [h.m]; exact Nat.pow_le_pow_right (n := 2) (by decide) h.w
theorem Pm.xor_lt (h : Pm W M P p) {a b : Nat} (ha : a < M) (hb : b < M) : a ^^^ b < M := by
  rw [h.m] at *; exact Nat.xor_lt_two_pow ha hb
theorem Pm.add_xor (h : Pm W M P p) {r : Nat} (hr : r < M) : M + r = M ^^^ r := by
  have := xor_add W 1 r (by rw [← h.m]; exact hr)
  rw [Nat.mul_one, ← h.m] at this
  exact this
theorem Pm.P_xor (h : Pm W M P p) : P = M ^^^ p := by rw [h.s, h.add_xor h.l]
theorem L_of (s : Nat) : L M P s = (2 * s) ^^^ (if M ≤ 2 * s then P else 0) := by
  unfold L; split <;> simp
theorem Pm.red (h : Pm W M P p) (s : Nat) (hs : s < M) (hh : M ≤ 2 * s) : 2 * s = M ^^^ (2 * s - M) := by
  have := h.add_xor (r := 2 * s - M) (by omega)
  omega
theorem Pm.L_lt (h : Pm W M P p) (s : Nat) (hs : s < M) : L M P s < M := by
  unfold L
  split
  · rename_i hh
    rw [h.P_xor, ← Nat.xor_assoc, h.red s hs hh, Nat.xor_comm M (2 * s - M), Nat.xor_assoc (2 * s - M) M M, Nat.xor_self, Nat.xor_zero]
    have := h.l
    exact h.xor_lt (by omega) (by omega)
  · omega
theorem Pm.bit (h : Pm W M P p) (s : Nat) (hs : s < M) : (2 * s).testBit W = decide (M ≤ 2 * s) := by
  rw [high_bit W (2 * s) (by rw [Nat.pow_succ, ← h.m]; omega), h.m]
theorem Pm.cond_xor (h : Pm W M P p) (a b : Nat) (ha : a < M) (hb : b < M) : decide (M ≤ 2 * (a ^^^ b)) = (decide (M ≤ 2 * a) ^^ decide (M ≤ 2 * b)) := by
  rw [← h.bit _ (h.xor_lt ha hb), ← h.bit a ha, ← h.bit b hb, two_mul_xor, Nat.testBit_xor]
theorem Pm.L_xor (h : Pm W M P p) (a b : Nat) (ha : a < M) (hb : b < M) : L M P (a ^^^ b) = L M P a ^^^ L M P b := by
  have hc := h.cond_xor a b ha hb
  unfold L
  by_cases ca : M ≤ 2 * a <;> by_cases cb : M ≤ 2 * b
  · have cc : ¬ M ≤ 2 * (a ^^^ b) := by simpa [ca, cb] using hc
    rw [if_pos ca, if_pos cb, if_neg cc, two_mul_xor]
    rw [Nat.xor_assoc, ← Nat.xor_assoc P, Nat.xor_comm P (2 * b), Nat.xor_assoc (2 * b), Nat.xor_self, Nat.xor_zero]
  · have cc : M ≤ 2 * (a ^^^ b) := by simpa [ca, cb] using hc
    rw [if_pos ca, if_neg cb, if_pos cc, two_mul_xor]
    rw [Nat.xor_assoc, Nat.xor_assoc, Nat.xor_comm (2 * b) P]
  · have cc : M ≤ 2 * (a ^^^ b) := by simpa [ca, cb] using hc
    rw [if_neg ca, if_pos cb, if_pos cc, two_mul_xor]
    rw [Nat.xor_assoc]
  · have cc : ¬ M ≤ 2 * (a ^^^ b) := by simpa [ca, cb] using hc
    rw [if_neg ca, if_neg cb, if_neg cc, two_mul_xor]
theorem Pm.it_lt (h : Pm W M P p) (k s : Nat) (hs : s < M) : it (L M P) k s < M := Yticfmhmkgcdhgaa.it_lt (fun s hs => h.L_lt s hs) k s hs
theorem Pm.it_xor (h : Pm W M P p) (k a b : Nat) (ha : a < M) (hb : b < M) : it (L M P) k (a ^^^ b) = it (L M P) k a ^^^ it (L M P) k b := by
  induction k with
  | zero => rfl
  | succ k ih =>
    show L M P (it (L M P) k (a ^^^ b)) = L M P _ ^^^ L M P _
    rw [ih, h.L_xor _ _ (h.it_lt k a ha) (h.it_lt k b hb)]
theorem it_low (k s : Nat) (hs : s * 2 ^ k < M) : it (L M P) k s = s * 2 ^ k := by
  induction k with
  | zero => simp [it]
  | succ k ih =>
    have h : s * 2 ^ (k + 1) = 2 * (s * 2 ^ k) := by rw [Nat.pow_succ]; simp [Nat.mul_comm, Nat.mul_left_comm]
    show L M P (it (L M P) k s) = _
    rw [ih (by omega), L, if_neg (by omega), h]
theorem it_add (f : Nat → Nat) (j k s : Nat) : it f (j + k) s = it f j (it f k s) := by
  induction j with
  | zero => simp [it]
  | succ j ih => rw [Nat.succ_add]; show f _ = f _; rw [ih]
theorem add_bit (n b : Nat) (hb : b ≤ 1) : 2 * n + b = (2 * n) ^^^ b := by
  have := xor_add 1 n b (by omega)
  simpa using this
theorem Pm.lst_eq (h : Pm W M P p) (s b : Nat) (hs : s < M) (hb : b ≤ 1) : lst M p s b = L M P s ^^^ b := by
  obtain ⟨m, hm⟩ : ∃ m, M = 2 * m := ⟨2 ^ (W - 1), by
    rw [h.m]
    have : W = (W - 1) + 1 := by have := h.w; omega
    rw [this, Nat.pow_succ]; simp [Nat.mul_comm]⟩
  unfold lst L
  by_cases hh : M ≤ 2 * s
  · rw [if_pos (by omega), if_pos hh, h.P_xor]
    have e := h.red s hs hh
    have e2 : 2 * s + b - M = (2 * s - M) ^^^ b := by
      rw [show 2 * s - M = 2 * (s - m) from by omega, ← add_bit _ _ hb]; omega
    rw [e2]
    conv => rhs; rw [e]
    generalize 2 * s - M = r
    rw [Nat.xor_comm M r, Nat.xor_assoc r M, ← Nat.xor_assoc M M, Nat.xor_self, Nat.zero_xor, Nat.xor_assoc, Nat.xor_assoc, Nat.xor_comm b p]
  · rw [if_neg (by omega), if_neg hh, add_bit _ _ hb]
theorem Pm.lst_lt (h : Pm W M P p) (s b : Nat) (hs : s < M) (hb : b ≤ 1) : lst M p s b < M := by
  rw [h.lst_eq s b hs hb]
  have := h.pos
  exact h.xor_lt (h.L_lt s hs) (by omega)
theorem Pm.lfold_lt (h : Pm W M P p) (l : List Nat) (hl : ∀ b ∈ l, b ≤ 1) (s : Nat) (hs : s < M) : l.foldl (lst M p) s < M := by
  induction l generalizing s with
  | nil => exact hs
  | cons b l ih => exact ih (fun c hc => hl c (List.mem_cons_of_mem _ hc)) _ (h.lst_lt s b hs (hl b (List.mem_cons_self ..)))

/-- The bits of a byte, the greatest one first. -/
def bits8 (x : Nat) : Nat → List Nat
  | 0 => []
  | k + 1 => x / 2 ^ k % 2 :: bits8 x k
theorem bits8_le (x k : Nat) : ∀ b ∈ bits8 x k, b ≤ 1 := by
  induction k with
  | zero => intro b h; simp [bits8] at h
  | succ k ih =>
    intro b h
    simp only [bits8, List.mem_cons] at h
    rcases h with rfl | h
    · omega
    · exact ih b h
theorem mod_split (x k : Nat) : x % 2 ^ (k + 1) = 2 ^ k * (x / 2 ^ k % 2) + x % 2 ^ k := by
  rw [Nat.pow_succ, Nat.mod_mul]
  omega
/-- Bits of a byte behind a sum. -/
theorem Pm.bits (h : Pm W M P p) (x : Nat) : ∀ (k s : Nat), k ≤ W → s < M → (bits8 x k).foldl (lst M p) s = it (L M P) k s ^^^ (x % 2 ^ k)
  | 0, s, _, _ => by simp [bits8, it, Nat.mod_one]
  | k + 1, s, hk, hs => by
    have hb : x / 2 ^ k % 2 ≤ 1 := by omega
    show (bits8 x k).foldl (lst M p) (lst M p s (x / 2 ^ k % 2)) = _
    rw [h.bits x k _ (by omega) (h.lst_lt s _ hs hb), h.lst_eq s _ hs hb]
    have hp2 : (x / 2 ^ k % 2) * 2 ^ k < M := by
      rw [h.m]
      have h1 : 2 ^ k < 2 ^ W := Nat.pow_lt_pow_right (by decide) (by omega)
      rcases (show x / 2 ^ k % 2 = 0 ∨ x / 2 ^ k % 2 = 1 from by omega) with e | e <;> rw [e]
      · have := Nat.two_pow_pos W; omega
      · omega
    have := h.pos
    rw [h.it_xor k _ _ (h.L_lt s hs) (by omega), it_low k _ hp2]
    have e : it (L M P) (k + 1) s = it (L M P) k (L M P s) := by rw [it_add]; rfl
    rw [e, mod_split, xor_add k _ _ (Nat.mod_lt _ (Nat.two_pow_pos k)), Nat.xor_assoc, Nat.mul_comm]
/-- Byte by byte. K = 2^(W-8). -/
def nxt (M P K : Nat) (s x : Nat) : Nat := ((s * 256) % M) ^^^ it (L M P) 8 ((s / K ^^^ x) * K)
theorem Pm.K (h : Pm W M P p) : M = 256 * 2 ^ (W - 8) := by
  rw [h.m]
  have : W = 8 + (W - 8) := by have := h.w; omega
  conv => lhs; rw [this, Nat.pow_add]
theorem Pm.nxt_eq (h : Pm W M P p) (s x : Nat) (hs : s < M) (hx : x < 256) : nxt M P (2 ^ (W - 8)) s x = it (L M P) 8 (s ^^^ (x * 2 ^ (W - 8))) := by
  have hK := h.K
  have hK0 : 0 < 2 ^ (W - 8) := Nat.two_pow_pos _
  have hsp := xor_add (W - 8) (s / 2 ^ (W - 8)) (s % 2 ^ (W - 8)) (Nat.mod_lt _ hK0)
  rw [Nat.div_add_mod, Nat.mul_comm] at hsp
  have hlow : s % 2 ^ (W - 8) < 2 ^ (W - 8) := Nat.mod_lt _ hK0
  have hh : s / 2 ^ (W - 8) < 256 := by rw [Nat.div_lt_iff_lt_mul hK0]; omega
  have hhx : s / 2 ^ (W - 8) ^^^ x < 256 := Nat.xor_lt_two_pow (n := 8) hh hx
  have e1 : (s * 256) % M = it (L M P) 8 (s % 2 ^ (W - 8)) := by
    rw [it_low 8 _ (by omega), hK, Nat.mul_comm s 256, Nat.mul_mod_mul_left, Nat.mul_comm]
  have hb : ∀ n, n < 256 → n * 2 ^ (W - 8) < M := fun n hn => by rw [hK]; exact Nat.mul_lt_mul_of_pos_right hn hK0
  unfold nxt
  rw [e1, ← h.it_xor 8 _ _ (by omega) (hb _ hhx)]
  congr 1
  conv => rhs; rw [hsp]
  rw [mul_pow_xor, Nat.xor_comm (s / 2 ^ (W - 8) * 2 ^ (W - 8)) (s % 2 ^ (W - 8)), Nat.xor_assoc]
theorem Pm.nxt_lt (h : Pm W M P p) (s x : Nat) (hs : s < M) (hx : x < 256) : nxt M P (2 ^ (W - 8)) s x < M := by
  rw [h.nxt_eq s x hs hx]
  have hb : x * 2 ^ (W - 8) < M := by rw [h.K]; exact Nat.mul_lt_mul_of_pos_right hx (Nat.two_pow_pos _)
  exact h.it_lt 8 _ (h.xor_lt hs hb)
def bitsOf (l : List UInt8) : List Nat := l.flatMap fun x => bits8 x.toNat 8
theorem bitsOf_le (l : List UInt8) : ∀ b ∈ bitsOf l, b ≤ 1 := by
  intro b h
  simp only [bitsOf, List.mem_flatMap] at h
  obtain ⟨x, _, h⟩ := h
  exact bits8_le _ _ b h
def crc (M P K : Nat) (s : Nat) (l : List UInt8) : Nat := l.foldl (fun s x => nxt M P K s x.toNat) s
theorem Pm.crc_lt (h : Pm W M P p) (l : List UInt8) : ∀ s, s < M → crc M P (2 ^ (W - 8)) s l < M := by
  induction l with
  | nil => exact fun s hs => hs
  | cons x l ih => exact fun s hs => ih _ (h.nxt_lt s _ hs (by have := x.toNat_lt; omega))
theorem Pm.crc_eq (h : Pm W M P p) (l : List UInt8) : ∀ a, a < M → crc M P (2 ^ (W - 8)) (it (L M P) W a) l = it (L M P) W ((bitsOf l).foldl (lst M p) a) := by
  induction l with
  | nil => exact fun a _ => rfl
  | cons x l ih =>
    intro a ha
    have hx : x.toNat < 256 := by have := x.toNat_lt; omega
    have hW := h.w
    have hp := h.pos
    have e1 : (bitsOf (x :: l)).foldl (lst M p) a = (bitsOf l).foldl (lst M p) (it (L M P) 8 a ^^^ x.toNat) := by
      simp only [bitsOf, List.flatMap_cons, List.foldl_append]
      rw [h.bits x.toNat 8 a hW ha, Nat.mod_eq_of_lt hx]
    rw [e1, ← ih _ (h.xor_lt (h.it_lt 8 a ha) (by omega))]
    show crc M P _ (nxt M P _ (it (L M P) W a) x.toNat) l = _
    congr 1
    rw [h.nxt_eq _ _ (h.it_lt W a ha) hx, h.it_xor W _ _ (h.it_lt 8 a ha) (by omega)]
    have hb : x.toNat * 2 ^ (W - 8) < M := by rw [h.K]; exact Nat.mul_lt_mul_of_pos_right hx (Nat.two_pow_pos _)
    rw [h.it_xor 8 _ _ (h.it_lt W a ha) hb]
    congr 1
    · rw [← it_add, ← it_add, Nat.add_comm]
    · rw [← it_low (W - 8) x.toNat hb, ← it_add]
      congr 1
      omega
theorem Pm.lst0 (h : Pm W M P p) (s : Nat) (hs : s < M) : lst M p s 0 = L M P s := by rw [h.lst_eq s 0 hs (by omega), Nat.xor_zero]
theorem Pm.zeros (h : Pm W M P p) : ∀ (k s : Nat), s < M → (List.replicate k 0).foldl (lst M p) s = it (L M P) k s
  | 0, _, _ => rfl
  | k + 1, s, hs => by
    rw [List.replicate_succ]
    show (List.replicate k 0).foldl (lst M p) (lst M p s 0) = _
    rw [h.lst0 s hs, h.zeros k _ (h.L_lt s hs)]
    have : it (L M P) (k + 1) s = it (L M P) k (L M P s) := by rw [it_add]; rfl
    rw [this]
/-- The sum byte by byte is that of the bits with W noughts behind them. -/
theorem Pm.tells (h : Pm W M P p) (l : List UInt8) : crc M P (2 ^ (W - 8)) 0 l = (bitsOf l ++ List.replicate W 0).foldl (lst M p) 0 := by
  have hp := h.pos
  have h0 : it (L M P) W 0 = 0 := by rw [it_low W 0 (by omega)]; omega
  have := h.crc_eq l 0 (by omega)
  rw [h0] at this
  rw [this, List.foldl_append, h.zeros _ _ (h.lfold_lt _ (bitsOf_le l) 0 (by omega))]
end
theorem p8 : Pm 8 256 263 7 := ⟨by decide, by decide, by decide, by decide⟩
theorem p16 : Pm 16 65536 98309 32773 := ⟨by decide, by decide, by decide, by decide⟩
end Go.Proofs.Yticfmhmkgcdhgaa.Crc
