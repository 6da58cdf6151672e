/-
  The plain laws of chapter 11's InfoCovers.
-/
import Derived.Test.YtikgpohoggpldaaCov
namespace Go.Proofs.Ytikgpohoggpldaa

theorem mxP_step (f : Nat → Int) (k : Nat) : f k ≤ mxP f (k + 1) ∧ mxP f k ≤ mxP f (k + 1) := by
  show f k ≤ mxI (mxP f k) (f k) ∧ mxP f k ≤ mxI (mxP f k) (f k)
  unfold mxI; split <;> omega
theorem mxP_ge (f : Nat → Int) (k : Nat) : ∀ n, k < n → f k ≤ mxP f n
  | 0, h => by omega
  | n + 1, h => by
    have h1 := mxP_step f n
    rcases Nat.lt_or_ge k n with h2 | h2
    · have := mxP_ge f k n h2; omega
    · obtain rfl : k = n := by omega
      exact h1.1
theorem mxP_le (f : Nat → Int) (b : Int) (hb : 16 ≤ b) : ∀ n, (∀ k, k < n → f k ≤ b) → 16 ≤ mxP f n ∧ mxP f n ≤ b
  | 0, _ => ⟨by show (16 : Int) ≤ 16; omega, hb⟩
  | n + 1, h => by
    have h1 := mxP_le f b hb n (fun k hk => h k (by omega))
    have h2 := h n (by omega)
    show 16 ≤ mxI (mxP f n) (f n) ∧ mxI (mxP f n) (f n) ≤ b
    unfold mxI; split <;> omega
theorem xfP_step (f : Nat → Int) (k : Nat) : f k ≤ xfP f (k + 1) ∧ xfP f k ≤ xfP f (k + 1) := by
  show f k ≤ mxI (xfP f k) (f k) ∧ xfP f k ≤ mxI (xfP f k) (f k)
  unfold mxI; split <;> omega
theorem xfP_ge (f : Nat → Int) (k : Nat) : ∀ n, k < n → f k ≤ xfP f n
  | 0, h => by omega
  | n + 1, h => by
    have h1 := xfP_step f n
    rcases Nat.lt_or_ge k n with h2 | h2
    · have := xfP_ge f k n h2; omega
    · obtain rfl : k = n := by omega
      exact h1.1
theorem xfP_le (f : Nat → Int) (b : Int) (hb : 0 ≤ b) : ∀ n, (∀ k, k < n → f k ≤ b) → xfP f n ≤ b
  | 0, _ => hb
  | n + 1, h => by
    have h1 := xfP_le f b hb n (fun k hk => h k (by omega))
    have h2 := h n (by omega)
    show mxI (xfP f n) (f n) ≤ b
    unfold mxI; split <;> omega
theorem mfP_step (f : Nat → Int) (k : Nat) : mfP f (k + 1) ≤ f k ∧ mfP f (k + 1) ≤ mfP f k := by
  show mnI (mfP f k) (f k) ≤ f k ∧ mnI (mfP f k) (f k) ≤ mfP f k
  unfold mnI; split <;> omega
theorem mfP_le (f : Nat → Int) (k : Nat) : ∀ n, k < n → mfP f n ≤ f k
  | 0, h => by omega
  | n + 1, h => by
    have h1 := mfP_step f n
    rcases Nat.lt_or_ge k n with h2 | h2
    · have := mfP_le f k n h2; omega
    · obtain rfl : k = n := by omega
      exact h1.1
theorem mfP_ge (f : Nat → Int) (b : Int) : ∀ n, 0 < n → (∀ k, k < n → b ≤ f k) → b ≤ mfP f n
  | 0, h, _ => by omega
  | n + 1, _, h => by
    have h2 := h n (by omega)
    have h3 : b ≤ mfP f n := by
      rcases Nat.eq_zero_or_pos n with h0 | h0
      · subst h0; exact h 0 (by omega)
      · exact mfP_ge f b n h0 (fun k hk => h k (by omega))
    show b ≤ mnI (mfP f n) (f n)
    unfold mnI; split <;> omega
theorem mnP_fall (f : Nat → Int) (k : Nat) (h16 : 16 ≤ f k) : mnP f (k + 1) ≤ f k := by
  rw [mnP_step]
  split
  · unfold mxI; split <;> omega
  · omega
theorem mnP_mono (f : Nat → Int) (n : Nat) : mnP f (n + 1) ≤ mnP f n := by
  have h := mnP_le f n
  rw [mnP_step]
  split
  · unfold mxI; split <;> omega
  · omega
theorem mnP_below (f : Nat → Int) (k : Nat) (h16 : 16 ≤ f k) : ∀ n, k < n → mnP f n ≤ f k
  | 0, h => by omega
  | n + 1, h => by
    rcases Nat.lt_or_ge k n with h2 | h2
    · exact Int.le_trans (mnP_mono f n) (mnP_below f k h16 n h2)
    · obtain rfl : k = n := by omega
      exact mnP_fall f k h16

/-- The pieces of which InfoCovers speaks. -/
def okC (l : List (Int × Int)) : Prop := ∀ k, k < l.length → 16 ≤ bk l k ∧ bk l k ≤ 65534 ∧ 1 ≤ by' l k ∧ by' l k ≤ 16777214

theorem refB_no {n : Nat} {mn mx mf xf : Int} {l : List (Int × Int)} : ∀ m, (∀ k, k < m → refI n mn mx mf xf k (bk l k) (by' l k) = false) → refB n mn mx mf xf l m = false
  | 0, _ => rfl
  | m + 1, h => by
    show (refB n mn mx mf xf l m || refI n mn mx mf xf m (bk l m) (by' l m)) = false
    rw [refB_no m (fun k hk => h k (by omega)), h m (by omega)]; rfl

theorem ttP_pos (f : Nat → Int) : ∀ n, 0 < n → (∀ k, k < n → 1 ≤ f k) → 0 < ttP f n
  | 0, h, _ => by omega
  | n + 1, _, h => by
    have h1 := h n (by omega)
    show 0 < ttP f n + f n
    rcases Nat.eq_zero_or_pos n with h0 | h0
    · subst h0; show 0 < (0 : Int) + f 0; omega
    · have := ttP_pos f n h0 (fun k hk => h k (by omega)); omega
theorem ttP_congr (f g : Nat → Int) : ∀ n, (∀ k, k < n → f k = g k) → ttP f n = ttP g n
  | 0, _ => rfl
  | n + 1, h => by
    show ttP f n + f n = ttP g n + g n
    rw [ttP_congr f g n (fun k hk => h k (by omega)), h n (by omega)]

section
variable {l : List (Int × Int)} (hn : 0 < l.length) (h : okC l)
include hn h
theorem xf_eq : knI (xfP (by' l) l.length) = xfP (by' l) l.length ∧ 1 ≤ xfP (by' l) l.length ∧ xfP (by' l) l.length ≤ 16777214 := by
  have h1 := xfP_le (by' l) 16777214 (by omega) l.length (fun k hk => (h k hk).2.2.2)
  have h2 := xfP_ge (by' l) 0 l.length hn
  have h3 := (h 0 hn).2.2.1
  refine ⟨?_, by omega, h1⟩
  unfold knI; rw [if_neg (by omega)]
theorem mf_eq : knI (mfP (by' l) l.length) = mfP (by' l) l.length ∧ 1 ≤ mfP (by' l) l.length := by
  have h1 := mfP_le (by' l) 0 l.length hn
  have h2 := mfP_ge (by' l) 1 l.length hn (fun k hk => (h k hk).2.2.1)
  have h3 := (h 0 hn).2.2.2
  refine ⟨?_, h2⟩
  unfold knI; rw [if_neg (by omega)]
omit hn in
theorem mx_eq : 16 ≤ mxP (bk l) l.length ∧ mxP (bk l) l.length ≤ 65534 := mxP_le (bk l) 65534 (by omega) l.length (fun k hk => (h k hk).2.1)
theorem ref_no (mf xf : Int) (hmf : mf = 0 ∨ mf = mfP (by' l) l.length) (hxf : xf = 0 ∨ xf = xfP (by' l) l.length) (k : Nat) (hk : k < l.length) :
    refI l.length (mnP (bk l) (max 1 (l.length - 1))) (mxP (bk l) l.length) mf xf k (bk l k) (by' l k) = false := by
  have h1 := mxP_ge (bk l) k l.length hk
  have h2 := mfP_le (by' l) k l.length hk
  have h3 := xfP_ge (by' l) k l.length hk
  have h4 : k + 1 < l.length → mnP (bk l) (max 1 (l.length - 1)) ≤ bk l k := fun hk1 => mnP_below (bk l) k (h k hk).1 _ (by omega)
  simp only [refI, Bool.or_eq_false_iff, Bool.and_eq_false_iff, decide_eq_false_iff_not]
  refine ⟨⟨⟨?_, by omega⟩, by rcases hmf with rfl | rfl <;> omega⟩, by rcases hxf with rfl | rfl <;> omega⟩
  by_cases hk1 : k + 1 < l.length
  · have := h4 hk1; right; omega
  · left; exact hk1
theorem cov_self : covR (mnP (bk l) (max 1 (l.length - 1))) (mxP (bk l) l.length) (knI (mfP (by' l) l.length)) (knI (xfP (by' l) l.length)) (ttP (bk l) l.length) l = 0 := by
  rw [(xf_eq hn h).1, (mf_eq hn h).1]
  unfold covR
  rw [if_neg (by omega), if_neg (by rw [refB_no _ (ref_no hn h _ _ (.inr rfl) (.inr rfl))]; simp), if_neg (fun h => h.2 rfl)]
theorem cov_zero : covR (mnP (bk l) (max 1 (l.length - 1))) (mxP (bk l) l.length) 0 0 0 l = 0 := by
  unfold covR
  rw [if_neg (by omega), if_neg (by rw [refB_no _ (ref_no hn h _ _ (.inl rfl) (.inl rfl))]; simp), if_neg (by omega)]
theorem cov_fat : covR (mnP (bk l) (max 1 (l.length - 1))) (mxP (bk l) l.length) (knI (mfP (by' l) l.length)) (knI (xfP (by' l) l.length)) (ttP (bk l) l.length) (l ++ [(mxP (bk l) l.length, knI (xfP (by' l) l.length) + 1)]) = 22 := by
  obtain ⟨e, h1, h2⟩ := xf_eq hn h
  refine covR_22 (k := l.length) (by simp) ?_
  have e2 : by' (l ++ [(mxP (bk l) l.length, knI (xfP (by' l) l.length) + 1)]) l.length = knI (xfP (by' l) l.length) + 1 := by simp [by', List.getD_eq_getElem?_getD]
  rw [e2, e]
  simp only [refI, Bool.or_eq_true, Bool.and_eq_true, decide_eq_true_eq]
  right; omega
theorem cov_less (h2 : 2 ≤ l.length) : covR (mnP (bk l) (max 1 (l.length - 1))) (mxP (bk l) l.length) (knI (mfP (by' l) l.length)) (knI (xfP (by' l) l.length)) (ttP (bk l) l.length) (l.take (l.length - 1)) = 22 := by
  have hl : (l.take (l.length - 1)).length = l.length - 1 := by simp
  have e : ttP (bk (l.take (l.length - 1))) (l.length - 1) = ttP (bk l) (l.length - 1) := by
    refine ttP_congr _ _ _ fun k hk => ?_
    simp [bk, List.getD_eq_getElem?_getD, hk, List.getElem?_eq_getElem (show k < l.length by omega)]
  have e2 : ttP (bk l) l.length = ttP (bk l) (l.length - 1) + bk l (l.length - 1) := by
    obtain ⟨m, hm⟩ : ∃ m, l.length = m + 1 := ⟨l.length - 1, by omega⟩
    rw [hm]; rfl
  have h3 := ttP_pos (bk l) l.length hn (fun k hk => by have := (h k hk).1; omega)
  have h4 := (h (l.length - 1) (by omega)).1
  unfold covR
  rw [hl, if_neg (by omega), e]
  split
  · rfl
  · rw [if_pos ⟨h3, by omega⟩]
end
theorem cov_more (mn mx y : Int) (l : List (Int × Int)) : covR mn mx 0 0 0 (l ++ [(mx + 1, y)]) = 22 := by
  refine covR_22 (k := l.length) (by simp) ?_
  have e2 : bk (l ++ [(mx + 1, y)]) l.length = mx + 1 := by simp [bk, List.getD_eq_getElem?_getD]
  rw [e2]
  simp only [refI, Bool.or_eq_true, Bool.and_eq_true, decide_eq_true_eq]
  left; left; right; omega
theorem cov_nil (mn mx mf xf tt : Int) : covR mn mx mf xf tt [] = 20 := rfl
end Go.Proofs.Ytikgpohoggpldaa
