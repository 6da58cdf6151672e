/-
  burst.Of: the plain law.
-/
import Derived.Test.YticfmhmkgcdhgaaFinds18
namespace Go.Proofs.Yticfmhmkgcdhgaa
open Crc (burstB dmg bl bk bits8 bitsOf bits8_le bitsOf_le)

/-- Do two lists of bits differ there? (0 or 1) -/
def dl (p q : List Nat) (k : Nat) : Nat := (p.getD k 0 + q.getD k 0) % 2
theorem dl_le (p q : List Nat) (k : Nat) : dl p q k ≤ 1 := by unfold dl; omega
theorem dl_comm (p q : List Nat) (k : Nat) : dl p q k = dl q p k := by unfold dl; omega
/-- The first and the last place that differ, of k places. -/
def flS (p q : List Nat) : Nat → Int × Int
  | 0 => (-1, -1)
  | k + 1 => if dl p q k = 1 then (if (flS p q k).1 < 0 then k else (flS p q k).1, k) else flS p q k
/-- The pattern of j places from f on. -/
def ptS (p q : List Nat) (f : Nat) : Nat → Nat
  | 0 => 0
  | j + 1 => 2 * ptS p q f j + dl p q (f + j)
theorem ptS_lt (p q : List Nat) (f : Nat) : ∀ j, ptS p q f j < 2 ^ j
  | 0 => by simp [ptS]
  | j + 1 => by
    have := ptS_lt p q f j
    have := dl_le p q (f + j)
    rw [ptS, Nat.pow_succ]; omega
theorem flS_comm (p q : List Nat) : ∀ k, flS p q k = flS q p k
  | 0 => rfl
  | k + 1 => by rw [flS, flS, dl_comm, flS_comm p q k]
theorem ptS_comm (p q : List Nat) (f : Nat) : ∀ k, ptS p q f k = ptS q p f k
  | 0 => rfl
  | k + 1 => by rw [ptS, ptS, dl_comm, ptS_comm p q f k]
theorem flS_spec (p q : List Nat) : ∀ k, ((flS p q k) = (-1, -1) ∧ ∀ j, j < k → dl p q j = 0) ∨
    (∃ f l : Nat, flS p q k = ((f : Int), (l : Int)) ∧ f ≤ l ∧ l < k ∧ dl p q f = 1 ∧ dl p q l = 1 ∧ (∀ j, j < f → dl p q j = 0) ∧ (∀ j, l < j → j < k → dl p q j = 0))
  | 0 => .inl ⟨rfl, fun j hj => absurd hj (Nat.not_lt_zero _)⟩
  | k + 1 => by
    rw [flS]
    by_cases h : dl p q k = 1
    · rw [if_pos h]
      rcases flS_spec p q k with ⟨e, h0⟩ | ⟨f, l, e, h1, h2, h3, h4, h5, h6⟩
      · rw [e]
        exact .inr ⟨k, k, by simp, Nat.le_refl _, by omega, h, h, h0, fun j _ _ => by omega⟩
      · rw [e, if_neg (by simp)]
        exact .inr ⟨f, k, rfl, by omega, by omega, h3, h, h5, fun j _ _ => by omega⟩
    · rw [if_neg h]
      have h0 : dl p q k = 0 := by have := dl_le p q k; omega
      rcases flS_spec p q k with ⟨e, h1⟩ | ⟨f, l, e, h1, h2, h3, h4, h5, h6⟩
      · exact .inl ⟨e, fun j hj => by rcases Nat.lt_or_ge j k with hj' | hj'; exact h1 j hj'; rw [show j = k from by omega]; exact h0⟩
      · exact .inr ⟨f, l, e, h1, by omega, h3, h4, h5, fun j hj hj2 => by rcases Nat.lt_or_ge j k with hj' | hj'; exact h6 j hj hj'; rw [show j = k from by omega]; exact h0⟩
theorem bits8_inj (x y : UInt8) (h : bits8 x.toNat 8 = bits8 y.toNat 8) : x = y := by
  have key : ∀ z : Fin 256, (bits8 z.val 8).foldl (fun a b => 2 * a + b) 0 = z.val := by decide +kernel
  have h1 := key ⟨x.toNat, x.toNat_lt⟩
  have h2 := key ⟨y.toNat, y.toNat_lt⟩
  simp only at h1 h2
  rw [h] at h1
  exact UInt8.toNat.inj (h1.symm.trans h2)
theorem bits8_len (x : Nat) : (bits8 x 8).length = 8 := rfl
theorem bitsOf_inj : ∀ (a b : List UInt8), bitsOf a = bitsOf b → a = b
  | [], [], _ => rfl
  | [], y :: b, h => by
    have := congrArg List.length h
    rw [bitsOf_cons, List.length_append, bits8_len] at this
    simp [bitsOf] at this <;> omega
  | x :: a, [], h => by
    have := congrArg List.length h
    rw [bitsOf_cons, List.length_append, bits8_len] at this
    simp [bitsOf] at this <;> omega
  | x :: a, y :: b, h => by
    rw [bitsOf_cons, bitsOf_cons] at h
    obtain ⟨h1, h2⟩ := List.append_inj h rfl
    rw [bits8_inj x y h1, bitsOf_inj a b h2]
theorem bit01 (l : List UInt8) (k : Nat) : (bitsOf l).getD k 0 ≤ 1 := by
  rw [List.getD_eq_getElem?_getD]
  cases h : (bitsOf l)[k]? with
  | none => simp
  | some x => exact bitsOf_le l x (List.mem_of_getElem? h)
theorem eq_of_dl {a b : List UInt8} (hl : a.length = b.length) (h : ∀ k, k < 8 * a.length → dl (bitsOf a) (bitsOf b) k = 0) : a = b := by
  apply bitsOf_inj
  apply List.ext_getElem
  · rw [bitsOf_length, bitsOf_length, hl]
  · intro k h1 h2
    have := h k (by rw [bitsOf_length] at h1; exact h1)
    have ha := bit01 a k
    have hb := bit01 b k
    unfold dl at this
    simp only [List.getD_eq_getElem?_getD, List.getElem?_eq_getElem h1, List.getElem?_eq_getElem h2, Option.getD_some] at *
    omega
theorem dl_self (p : List Nat) (k : Nat) : dl p p k = 0 := by unfold dl; omega
theorem flS_self (p : List Nat) : ∀ k, flS p p k = (-1, -1)
  | 0 => rfl
  | k + 1 => by rw [flS, if_neg (by rw [dl_self]; omega), flS_self p k]
/-- Bits behind rounds of a burst, one by one. -/
theorem rT_at (b : List Nat) (hb : ∀ x ∈ b, x ≤ 1) (a n p k : Nat) (hk : k < b.length) : ∀ i, a + i ≤ b.length → (rT b a n p i).getD k 0 = if a ≤ k ∧ k < a + i then (b.getD k 0 + p / 2 ^ (n - 1 - (k - a))) % 2 else b.getD k 0
  | 0, _ => by rw [if_neg (by omega)]; rfl
  | i + 1, hi => by
    have ih := rT_at b hb a n p k hk i (by omega)
    rw [rT]
    simp only [List.getD_eq_getElem?_getD] at ih ⊢
    by_cases h : k = a + i
    · subst h
      rw [List.getElem?_set_self (by rw [rT_length]; omega), if_pos (by omega)]
      simp only [Option.getD_some]
      rw [ih, if_neg (by omega), show a + i - a = i from by omega]
    · rw [List.getElem?_set_ne (by omega), ih]
      by_cases h2 : a ≤ k ∧ k < a + i
      · rw [if_pos h2, if_pos (by omega)]
      · rw [if_neg h2, if_neg (by omega)]
theorem dl_burst (l : List UInt8) (a n p : Nat) (hn : n ≤ 16) (hat : a + n ≤ 8 * l.length) (k : Nat) (hk : k < 8 * l.length) :
    dl (bitsOf l) (bitsOf (burstB l a n p)) k = if a ≤ k ∧ k < a + n then p / 2 ^ (n - 1 - (k - a)) % 2 else 0 := by
  have hk' : k < (bitsOf l).length := by rw [bitsOf_length]; exact hk
  unfold dl
  rw [← rT_burst l a n p hn hat, rT_at _ (bitsOf_le l) a n p k hk' n (by rw [bitsOf_length]; exact hat)]
  split <;> omega
/-- What Of tells. -/
def ofX (N : Nat) (p q : List Nat) : B3 × Int :=
  if (flS p q N).1 < 0 then (⟨0, 0, 0⟩, 20)
  else if (flS p q N).2 - (flS p q N).1 + 1 > 16 then (⟨0, 0, 0⟩, 10)
  else (⟨(flS p q N).1.toNat, ((flS p q N).2 - (flS p q N).1 + 1).toNat, ptS p q (flS p q N).1.toNat ((flS p q N).2 - (flS p q N).1 + 1).toNat⟩, 0)
theorem ofX_comm (N : Nat) (p q : List Nat) : ofX N p q = ofX N q p := by
  unfold ofX
  rw [flS_comm, ptS_comm]
theorem ofX_two (N : Nat) (p q : List Nat) (f l : Nat) (e : flS p q N = ((f : Int), (l : Int))) (h : f ≤ l) (h16 : l - f + 1 ≤ 16) : ofX N p q = (⟨f, l - f + 1, ptS p q f (l - f + 1)⟩, 0) := by
  unfold ofX
  rw [e]
  simp only
  rw [if_neg (by omega), if_neg (by omega), Int.toNat_natCast, show ((l : Int) - (f : Int) + 1).toNat = l - f + 1 from by omega]
theorem ptS_burst (p q : List Nat) (f n P : Nat) (hP : P < 2 ^ n) (h : ∀ j, j < n → dl p q (f + j) = P / 2 ^ (n - 1 - j) % 2) : ∀ j, j ≤ n → ptS p q f j = P / 2 ^ (n - j)
  | 0, _ => by rw [ptS, Nat.sub_zero, Nat.div_eq_of_lt hP]
  | j + 1, hj => by
    rw [ptS, ptS_burst p q f n P hP h j (by omega), h j (by omega), show n - 1 - j = n - (j + 1) from by omega, show n - j = (n - (j + 1)) + 1 from by omega, Nat.pow_succ, ← Nat.div_div_eq_div_mul]
    omega
/-- Of what was turned by a burst: it. -/
theorem ofX_burst (l : List UInt8) (x : B3) (hx : okB (8 * l.length) x) : ofX (8 * l.length) (bitsOf l) (bitsOf (burstB l x.a x.n x.p)) = (x, 0) := by
  obtain ⟨a, n, P⟩ := x
  obtain ⟨h1, h2, h3, h4⟩ := hx
  simp only at h1 h2 h3 h4 ⊢
  have hn0 : 0 < n := by rw [← h1]; exact Crc.bl_pos _ (by omega)
  have hn16 : n ≤ 16 := by rw [← h1]; exact Crc.bl_le _ _ h2
  have hsp := Crc.bl_spec P (by omega)
  rw [h1] at hsp
  have hd := dl_burst l a n P hn16 h4
  have hda : dl (bitsOf l) (bitsOf (burstB l a n P)) a = 1 := by
    rw [hd a (by omega), if_pos (by omega), Nat.sub_self, Nat.sub_zero]
    have : P / 2 ^ (n - 1) = 1 := by
      have e : 2 ^ n = 2 * 2 ^ (n - 1) := by rw [← Nat.pow_succ', Nat.succ_eq_add_one, show n - 1 + 1 = n from by omega]
      rw [e] at hsp
      refine Nat.div_eq_of_lt_le (by omega) (by omega)
    omega
  have hdl : dl (bitsOf l) (bitsOf (burstB l a n P)) (a + n - 1) = 1 := by
    rw [hd _ (by omega), if_pos (by omega), show n - 1 - (a + n - 1 - a) = 0 from by omega]
    simp
    omega
  rcases flS_spec (bitsOf l) (bitsOf (burstB l a n P)) (8 * l.length) with ⟨-, h0⟩ | ⟨f, t, e, g1, g2, g3, g4, g5, g6⟩
  · have := h0 a (by omega); omega
  · have hf : f = a := by
      have hr : a ≤ f ∧ f < a + n := by
        rw [hd f (by omega)] at g3
        split at g3
        · assumption
        · omega
      rcases Nat.lt_or_ge a f with h | h
      · have := g5 a h; omega
      · omega
    have ht : t = a + n - 1 := by
      have hr : a ≤ t ∧ t < a + n := by
        rw [hd t (by omega)] at g4
        split at g4
        · assumption
        · omega
      rcases Nat.lt_or_ge t (a + n - 1) with h | h
      · have := g6 _ h (by omega); omega
      · omega
    subst hf ht
    rw [ofX_two _ _ _ f (f + n - 1) e g1 (by omega), show f + n - 1 - f + 1 = n from by omega]
    have := ptS_burst (bitsOf l) (bitsOf (burstB l f n P)) f n P hsp.2 (fun j hj => by rw [hd _ (by omega), if_pos (by omega), show f + j - f = j from by omega]) n (Nat.le_refl _)
    rw [this, Nat.sub_self]
    simp
theorem ptS_div (p q : List Nat) (f : Nat) : ∀ (n j : Nat), j < n → ptS p q f n / 2 ^ (n - 1 - j) % 2 = dl p q (f + j)
  | 0, j, h => absurd h (Nat.not_lt_zero _)
  | n + 1, j, h => by
    rw [ptS]
    have hd := dl_le p q (f + n)
    rcases Nat.lt_or_ge j n with hj | hj
    · rw [show n + 1 - 1 - j = (n - 1 - j) + 1 from by omega, Nat.pow_succ', ← Nat.div_div_eq_div_mul, show (2 * ptS p q f n + dl p q (f + n)) / 2 = ptS p q f n from by omega]
      exact ptS_div p q f n j hj
    · obtain rfl : j = n := by omega
      rw [show j + 1 - 1 - j = 0 from by omega]
      simp
      omega
/-- What is told is a burst that turns the one into the other. -/
theorem ofX_turns (a b : List UInt8) (hl : a.length = b.length) (h0 : (ofX (8 * a.length) (bitsOf a) (bitsOf b)).2 = 0) :
    okB (8 * a.length) (ofX (8 * a.length) (bitsOf a) (bitsOf b)).1 ∧ burstB a (ofX (8 * a.length) (bitsOf a) (bitsOf b)).1.a (ofX (8 * a.length) (bitsOf a) (bitsOf b)).1.n (ofX (8 * a.length) (bitsOf a) (bitsOf b)).1.p = b := by
  rcases flS_spec (bitsOf a) (bitsOf b) (8 * a.length) with ⟨e, -⟩ | ⟨f, t, e, g1, g2, g3, g4, g5, g6⟩
  · exfalso
    unfold ofX at h0
    rw [e, if_pos (by simp)] at h0
    exact absurd h0 (by decide)
  · have h16 : t - f + 1 ≤ 16 := by
      rcases Nat.lt_or_ge 16 (t - f + 1) with h | h
      · exfalso
        unfold ofX at h0
        rw [e] at h0
        simp only at h0
        rw [if_neg (by omega), if_pos (by omega)] at h0
        exact absurd h0 (by decide)
      · exact h
    rw [ofX_two _ _ _ f t e g1 h16]
    simp only
    obtain ⟨n, hn⟩ : ∃ n, t - f + 1 = n := ⟨_, rfl⟩
    rw [hn] at h16 ⊢
    have hlt := ptS_lt (bitsOf a) (bitsOf b) f n
    have hdv := ptS_div (bitsOf a) (bitsOf b) f n
    have hodd := hdv (n - 1) (by omega)
    rw [show n - 1 - (n - 1) = 0 from by omega, show f + (n - 1) = t from by omega, g4] at hodd
    have htop := hdv 0 (by omega)
    rw [Nat.sub_zero, Nat.add_zero, g3] at htop
    generalize ptS (bitsOf a) (bitsOf b) f n = P at *
    have hlo : 2 ^ (n - 1) ≤ P := by
      rcases Nat.lt_or_ge P (2 ^ (n - 1)) with h | h
      · rw [Nat.div_eq_of_lt h] at htop; omega
      · exact h
    have hP16 : P < 65536 := Nat.lt_of_lt_of_le hlt (Nat.pow_le_pow_right (by omega) h16)
    refine ⟨⟨Crc.bl_of P n (by omega) hlo hlt, hP16, by simpa using hodd, by show f + n ≤ _; omega⟩, ?_⟩
    apply bitsOf_inj
    rw [← rT_burst a f n P h16 (by omega)]
    apply List.ext_getElem
    · rw [rT_length, bitsOf_length, bitsOf_length, hl]
    · intro k h1 h2
      have hk : k < 8 * a.length := by rw [rT_length, bitsOf_length] at h1; exact h1
      have hk2 : k < (bitsOf a).length := by rw [bitsOf_length]; exact hk
      have h := rT_at (bitsOf a) (bitsOf_le a) f n P k hk2 n (by rw [bitsOf_length]; omega)
      have ha := bit01 a k
      have hb := bit01 b k
      have hk3 : dl (bitsOf a) (bitsOf b) k = if f ≤ k ∧ k < f + n then P / 2 ^ (n - 1 - (k - f)) % 2 else 0 := by
        split
        · have := hdv (k - f) (by omega)
          rw [show f + (k - f) = k from by omega] at this
          exact this.symm
        · rcases Nat.lt_or_ge k f with h | h
          · exact g5 k h
          · exact g6 k (by omega) hk
      unfold dl at hk3
      simp only [List.getD_eq_getElem?_getD, List.getElem?_eq_getElem h1, List.getElem?_eq_getElem h2, List.getElem?_eq_getElem hk2, Option.getD_some] at *
      split at hk3 <;> simp_all <;> omega
/-- Which error is told. -/
theorem ofX_err (a b : List UInt8) (hl : a.length = b.length) : ((ofX (8 * a.length) (bitsOf a) (bitsOf b)).2 = 0 ∧ a ≠ b) ∨ (ofX (8 * a.length) (bitsOf a) (bitsOf b) = (⟨0, 0, 0⟩, 20) ∧ a = b) ∨
    (ofX (8 * a.length) (bitsOf a) (bitsOf b) = (⟨0, 0, 0⟩, 10) ∧ a ≠ b ∧ (flS (bitsOf a) (bitsOf b) (8 * a.length)).2 - (flS (bitsOf a) (bitsOf b) (8 * a.length)).1 ≥ 16) := by
  rcases flS_spec (bitsOf a) (bitsOf b) (8 * a.length) with ⟨e, h0⟩ | ⟨f, t, e, g1, g2, g3, g4, g5, g6⟩
  · exact .inr (.inl ⟨by unfold ofX; rw [e, if_pos (by simp)], eq_of_dl hl h0⟩)
  · have hne : a ≠ b := fun h => by subst h; rw [dl_self] at g3; omega
    rcases Nat.lt_or_ge 16 (t - f + 1) with h | h
    · refine .inr (.inr ⟨?_, hne, ?_⟩)
      · unfold ofX
        rw [e]
        simp only
        rw [if_neg (by omega), if_pos (by omega)]
      · rw [e]; simp only; omega
    · exact .inl ⟨by rw [ofX_two _ _ _ f t e g1 h], hne⟩
theorem bits8_at (x : UInt8) (j : Nat) (hj : j < 8) : (bits8 x.toNat 8).getD j 0 = x.toNat / 2 ^ (7 - j) % 2 := by
  have : j = 0 ∨ j = 1 ∨ j = 2 ∨ j = 3 ∨ j = 4 ∨ j = 5 ∨ j = 6 ∨ j = 7 := by omega
  rcases this with rfl | rfl | rfl | rfl | rfl | rfl | rfl | rfl <;> rfl
theorem bitsOf_at : ∀ (l : List UInt8) (k : Nat) (hk : k / 8 < l.length), (bitsOf l).getD k 0 = l[k / 8].toNat / 2 ^ (7 - k % 8) % 2
  | [], k, hk => by simp at hk
  | x :: l, k, hk => by
    rw [bitsOf_cons]
    rcases Nat.lt_or_ge k 8 with h | h
    · have e : (bits8 x.toNat 8 ++ bitsOf l).getD k 0 = (bits8 x.toNat 8).getD k 0 := by
        simp only [List.getD_eq_getElem?_getD]
        rw [List.getElem?_append_left (by rw [bits8_len]; exact h)]
      rw [e, bits8_at x k h]
      simp only [Nat.div_eq_of_lt h, Nat.mod_eq_of_lt h, List.getElem_cons_zero]
    · have e : (bits8 x.toNat 8 ++ bitsOf l).getD k 0 = (bitsOf l).getD (k - 8) 0 := by
        simp only [List.getD_eq_getElem?_getD]
        rw [List.getElem?_append_right (by rw [bits8_len]; exact h), bits8_len]
      have h8 : k / 8 = (k - 8) / 8 + 1 := by omega
      have hk' : (k - 8) / 8 < l.length := by simp at hk; omega
      rw [e, bitsOf_at l (k - 8) hk', show (k - 8) % 8 = k % 8 from by omega]
      simp only [h8, List.getElem_cons_succ]
theorem xor_div (x y k : Nat) : (x ^^^ y) / 2 ^ k = (x / 2 ^ k) ^^^ (y / 2 ^ k) := by
  rw [← Nat.shiftRight_eq_div_pow, ← Nat.shiftRight_eq_div_pow, ← Nat.shiftRight_eq_div_pow, Nat.shiftRight_xor_distrib]
theorem dl_bytes (a b : List UInt8) (k : Nat) (ha : k / 8 < a.length) (hb : k / 8 < b.length) : dl (bitsOf a) (bitsOf b) k = (a[k / 8].toNat ^^^ b[k / 8].toNat) / 2 ^ (7 - k % 8) % 2 := by
  unfold dl
  rw [bitsOf_at a k ha, bitsOf_at b k hb, xor_div, Crc.par_xor]
  omega
theorem and_bit : ∀ (z : Fin 256) (j : Fin 8), ((z.val &&& (128 / 2 ^ j.val)) = 0 ↔ z.val / 2 ^ (7 - j.val) % 2 = 0) := by decide +kernel
theorem ofInt_u8' (a : Nat) (h : a < 256) : (BitVec.ofInt 8 (a : Int)).toNat = a := by
  rw [BitVec.toNat_ofInt]; omega
theorem u8_and_nat (a b : Nat) (ha : a < 256) (hb : b < 256) : bits .and .u8 (a : Int) (b : Int) = ((a &&& b : Nat) : Int) := by
  have hx : a &&& b < 2 ^ 8 := Nat.and_lt_two_pow _ (by omega)
  show IntKind.u8.wrap ((BitVec.ofInt 8 (a : Int) &&& BitVec.ofInt 8 (b : Int)).toNat : Int) = _
  rw [BitVec.toNat_and, ofInt_u8' a ha, ofInt_u8' b hb]
  simp only [IntKind.wrap, IntKind.bits, IntKind.signed]
  simp
  omega
theorem bit_test (x y j : Nat) (hx : x < 256) (hy : y < 256) (hj : j < 8) : (0 < bits .and .u8 (bits .xor .u8 (x : Int) (y : Int)) (128 / 2 ^ j)) ↔ (x ^^^ y) / 2 ^ (7 - j) % 2 = 1 := by
  have hz : x ^^^ y < 256 := Nat.xor_lt_two_pow (n := 8) hx hy
  have e : ((128 : Int) / 2 ^ j) = ((128 / 2 ^ j : Nat) : Int) := by simp
  rw [u8_xor_nat x y hx hy, e, u8_and_nat _ _ hz (Nat.lt_of_le_of_lt (Nat.div_le_self _ _) (by omega))]
  have h := and_bit ⟨x ^^^ y, hz⟩ ⟨j, hj⟩
  simp only at h
  omega
theorem bit_get (x y j : Nat) (hx : x < 256) (hy : y < 256) (hj : j < 8) : bits .and .u8 (bits .xor .u8 (x : Int) (y : Int) / 2 ^ (7 - j)) 1 = (((x ^^^ y) / 2 ^ (7 - j) % 2 : Nat) : Int) := by
  have hz : x ^^^ y < 256 := Nat.xor_lt_two_pow (n := 8) hx hy
  have e : (((x ^^^ y : Nat) : Int) / 2 ^ (7 - j)) = (((x ^^^ y) / 2 ^ (7 - j) : Nat) : Int) := by simp
  rw [u8_xor_nat x y hx hy, e, show (1 : Int) = ((1 : Nat) : Int) from rfl, u8_and_nat _ _ (Nat.lt_of_le_of_lt (Nat.div_le_self _ _) hz) (by omega), Nat.and_one_is_mod]
end Go.Proofs.Yticfmhmkgcdhgaa
