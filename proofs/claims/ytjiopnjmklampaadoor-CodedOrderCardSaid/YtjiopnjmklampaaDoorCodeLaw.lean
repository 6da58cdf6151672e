/-
  The plain laws of chapter 03: codes and what is got of them.
-/
import Derived.Test.YtjiopnjmklampaaDoorGet
namespace Go.Proofs.YtjiopnjmklampaaDoor

/-- The bytes behind a code's first one. -/
def digL (n : Nat) : Nat → List Nat
  | 0 => []
  | d + 1 => (128 + n / 64 ^ d % 64) :: digL n d
theorem digL_length (n : Nat) : ∀ d, (digL n d).length = d
  | 0 => rfl
  | d + 1 => by simp [digL, digL_length n d]
theorem digL_in (n : Nat) : ∀ d, ∀ x ∈ digL n d, 128 ≤ x ∧ x < 192
  | 0, x, h => by simp [digL] at h
  | d + 1, x, h => by
    simp only [digL, List.mem_cons] at h
    rcases h with rfl | h
    · omega
    · exact digL_in n d x h
theorem pow64 (d : Nat) : (64 : Nat) ^ d = 2 ^ (6 * d) := by rw [show (64 : Nat) = 2 ^ 6 from rfl, ← Nat.pow_mul]
theorem part0 (n k : Nat) : partN n k 0 = n / 64 ^ (k - 1) := by unfold partN; rw [pow64]; rfl
theorem map_digL (n : Nat) : ∀ d, ((List.range d).map fun j => 128 + n / 64 ^ (d - 1 - j) % 64) = digL n d
  | 0 => rfl
  | d + 1 => by
    rw [List.range_succ_eq_map, List.map_cons, List.map_map]
    show _ :: _ = _ :: digL n d
    rw [← map_digL n d]
    congr 1
    refine List.map_congr_left fun j hj => ?_
    have := List.mem_range.1 hj
    show 128 + n / 64 ^ (d + 1 - 1 - (j + 1)) % 64 = _
    rw [show d + 1 - 1 - (j + 1) = d - 1 - j from by omega]
theorem codeN_dig (n : Nat) (h : szN n ≠ 1) : codeN n = firstV n (szN n) :: digL n (szN n - 1) := by
  unfold codeN
  rw [if_neg h, ← map_digL]
  congr 1
  refine List.map_congr_left fun j hj => ?_
  have := List.mem_range.1 hj
  show 128 + n / 2 ^ (6 * (szN n - 1 - (j + 1))) % 64 = _
  rw [pow64, show szN n - 1 - 1 - j = szN n - 1 - (j + 1) from by omega]
theorem codeN_one (n : Nat) (h : szN n = 1) : codeN n = [n] ∧ n < 128 := by
  refine ⟨if_pos h, ?_⟩
  unfold szN at h; (repeat' split at h) <;> omega

theorem div64 (n d : Nat) : n / 64 ^ (d + 1) = n / 64 ^ d / 64 := by rw [Nat.pow_succ, Nat.div_div_eq_div_mul]
theorem cont_code (n : Nat) (b : List Nat) : ∀ d, cont d (n / 64 ^ d) (digL n d ++ b) = (n, 0)
  | 0 => by simp [cont]
  | d + 1 => by
    show cont (d + 1) _ ((128 + n / 64 ^ d % 64) :: (digL n d ++ b)) = _
    rw [cont_yes _ _ _ _ (by omega), show n / 64 ^ (d + 1) * 64 + (128 + n / 64 ^ d % 64) % 64 = n / 64 ^ d from by rw [div64]; omega]
    exact cont_code n b d
theorem cont_short : ∀ (d m : Nat) (l : List Nat), (∀ x ∈ l, 128 ≤ x ∧ x < 192) → l.length < d → cont d m l = (0, 11)
  | 0, _, _, _, h => by omega
  | _ + 1, _, [], _, _ => rfl
  | d + 1, m, x :: l, h1, h2 => by
    rw [cont_yes _ _ _ _ (h1 x (List.mem_cons_self ..))]
    exact cont_short d _ l (fun y hy => h1 y (List.mem_cons_of_mem _ hy)) (by simp at h2; omega)
theorem cont_back : ∀ (d p m : Nat) (r : List Nat), cont d p r = (m, 0) → d ≤ r.length ∧ m / 64 ^ d = p ∧ r.take d = digL m d
  | 0, p, m, r, h => by
    simp [cont] at h; subst h
    simp [digL]
  | d + 1, p, m, [], h => by simp [cont] at h
  | d + 1, p, m, x :: r, h => by
    by_cases hx : 128 ≤ x ∧ x < 192
    · rw [cont_yes _ _ _ _ hx] at h
      obtain ⟨h1, h2, h3⟩ := cont_back d _ m r h
      refine ⟨by simp; omega, by rw [div64, h2]; omega, ?_⟩
      show x :: r.take d = (128 + m / 64 ^ d % 64) :: digL m d
      rw [h3, h2]
      congr 1
      omega
    · rw [cont_no _ _ _ _ hx] at h
      simp at h

theorem ones_first (n : Nat) (hn : n < 68719476736) (h : szN n ≠ 1) : onesOf (firstV n (szN n)) = szN n ∧ firstV n (szN n) % 2 ^ (7 - szN n) = n / 64 ^ (szN n - 1) ∧ firstV n (szN n) < 256 := by
  have hp := part_lt n hn h
  have hs := szN_pos n
  have hf : firstV n (szN n) = 256 - 2 ^ (8 - szN n) + partN n (szN n) 0 := rfl
  rw [hf, ← part0]
  generalize partN n (szN n) 0 = p at *
  generalize szN n = k at *
  have hk : k = 2 ∨ k = 3 ∨ k = 4 ∨ k = 5 ∨ k = 6 ∨ k = 7 := by omega
  unfold onesOf
  rcases hk with rfl | rfl | rfl | rfl | rfl | rfl <;> simp only [Nat.reduceSub, Nat.reducePow] at hp ⊢ <;> refine ⟨?_, by omega, by omega⟩ <;> (repeat' split) <;> omega
theorem codeN_lt (n : Nat) (hn : n < 68719476736) : ∀ x ∈ codeN n, x < 256 := by
  intro x hx
  by_cases h : szN n = 1
  · obtain ⟨e, h128⟩ := codeN_one n h
    rw [e, List.mem_singleton] at hx; omega
  · rw [codeN_dig n h, List.mem_cons] at hx
    rcases hx with rfl | hx
    · exact (ones_first n hn h).2.2
    · have := digL_in n _ x hx; omega
/-- Get of Put is the number, whatever is behind it. -/
theorem getR_code (n : Nat) (hn : n < 68719476736) (b : List Nat) : getR (codeN n ++ b) = (n, szN n, 0) := by
  by_cases h : szN n = 1
  · obtain ⟨e, h128⟩ := codeN_one n h
    rw [e, h]
    show getR (n :: b) = _
    rw [getR_cons, if_pos (by unfold onesOf; rw [if_pos h128])]
  · obtain ⟨h1, h2, h3⟩ := ones_first n hn h
    have hs := szN_pos n
    rw [codeN_dig n h, List.cons_append, getR_cons, h1, if_neg (by omega), if_neg (by omega), h2, cont_code]
    simp
/-- A code's beginning is none. -/
theorem getR_part (n : Nat) (hn : n < 68719476736) (i : Nat) (hi : i < szN n) : getR ((codeN n).take i) = (0, 0, 11) := by
  cases i with
  | zero => rfl
  | succ i =>
    have h : szN n ≠ 1 := by omega
    obtain ⟨h1, h2, h3⟩ := ones_first n hn h
    have hs := szN_pos n
    rw [codeN_dig n h, List.take_succ_cons, getR_cons, h1, if_neg (by omega), if_neg (by omega), cont_short _ _ _ (fun x hx => digL_in n _ x (List.mem_of_mem_take hx)) (by rw [List.length_take, digL_length]; omega)]
    simp
theorem ones_range : ∀ x, x < 256 → 2 ≤ onesOf x → onesOf x ≤ 7 → 256 - 2 ^ (8 - onesOf x) + x % 2 ^ (7 - onesOf x) = x := by decide +kernel
theorem ones_zero : ∀ x, x < 256 → onesOf x = 0 → x < 128 := by decide +kernel
/-- What was got is a code. -/
theorem getR_ok (l : List Nat) (hl : ∀ x ∈ l, x < 256) (h : (getR l).2.2 = 0) : (getR l).1 < 68719476736 ∧ (getR l).2.1 = szN (getR l).1 ∧ szN (getR l).1 ≤ l.length ∧ codeN (getR l).1 = l.take (szN (getR l).1) := by
  cases l with
  | nil => simp [getR] at h
  | cons x r =>
    have hx := hl x (List.mem_cons_self ..)
    rw [getR_cons] at h ⊢
    have hle := onesOf_le x
    split at h
    · rename_i h0
      rw [if_pos h0]
      have h128 : x < 128 := ones_zero x hx h0
      have hz : szN x = 1 := if_pos h128
      refine ⟨by simp only []; omega, by simp only []; rw [hz], by simp only []; rw [hz]; simp, ?_⟩
      simp only []
      rw [hz, (codeN_one x hz).1]; rfl
    · rename_i h0
      rw [if_neg h0]
      split at h
      · simp at h
      · rename_i h1
        rw [if_neg h1]
        split at h
        · rename_i h2; exact absurd h h2
        · rename_i h2
          rw [if_neg h2]
          split at h
          · rename_i h3
            rw [if_pos h3]
            have h2' : (cont (onesOf x - 1) (x % 2 ^ (7 - onesOf x)) r).2 = 0 := by omega
            have hlt := cont_lt (onesOf x - 1) (x % 2 ^ (7 - onesOf x)) r _ (Nat.mod_lt _ (Nat.two_pow_pos _)) h2'
            obtain ⟨c1, c2, c3⟩ := cont_back (onesOf x - 1) (x % 2 ^ (7 - onesOf x)) (cont (onesOf x - 1) (x % 2 ^ (7 - onesOf x)) r).1 r (Prod.ext rfl h2')
            generalize (cont (onesOf x - 1) (x % 2 ^ (7 - onesOf x)) r).1 = m at *
            have hm : m < 68719476736 := by
              refine Nat.lt_of_lt_of_le hlt ?_
              rw [pow64, ← Nat.pow_add]
              exact Nat.le_trans (Nat.pow_le_pow_right (by omega) (show 7 - onesOf x + 6 * (onesOf x - 1) ≤ 36 by omega)) (by decide)
            have hs1 : szN m ≠ 1 := by omega
            refine ⟨hm, h3.symm, by show szN m ≤ r.length + 1; omega, ?_⟩
            show codeN m = (x :: r).take (szN m)
            obtain ⟨f1, f2, f3⟩ := ones_first m hm hs1
            have hfx : firstV m (szN m) = x := by
              rw [h3] at f1 f2 ⊢
              rw [c2] at f2
              have hff : firstV m (onesOf x) = 256 - 2 ^ (8 - onesOf x) + partN m (onesOf x) 0 := rfl
              rw [part0, c2] at hff
              rw [hff]
              exact ones_range x hx (by omega) (by omega)
            rw [codeN_dig m hs1, hfx, h3, ← c3]
            obtain ⟨q, hq⟩ : ∃ q, onesOf x = q + 1 := ⟨onesOf x - 1, by omega⟩
            rw [hq]; rfl
          · simp at h
/-- With an error there is no number. -/
theorem getR_err (l : List Nat) (h : (getR l).2.2 ≠ 0) : (getR l).1 = 0 ∧ (getR l).2.1 = 0 := by
  cases l with
  | nil => exact ⟨rfl, rfl⟩
  | cons x r =>
    rw [getR_cons] at h ⊢
    split at h
    · simp at h
    · rename_i h0
      rw [if_neg h0]
      split at h
      · rename_i h1; rw [if_pos h1]; exact ⟨rfl, rfl⟩
      · rename_i h1
        rw [if_neg h1]
        split at h
        · rename_i h2; rw [if_pos h2]; exact ⟨rfl, rfl⟩
        · rename_i h2
          rw [if_neg h2]
          split at h
          · simp at h
          · rename_i h3; rw [if_neg h3]; exact ⟨rfl, rfl⟩
/-- Behind a code's first byte none begins. -/
theorem getR_in (n : Nat) (b : List Nat) (i : Nat) (h1 : 0 < i) (hi : i < szN n) : getR ((codeN n ++ b).drop i) = (0, 0, 12) := by
  have h : szN n ≠ 1 := by omega
  have hl := codeN_length n
  rw [List.drop_append_of_le_length (by omega)]
  have hcat := codeN_at n i h1 hi
  rw [List.drop_eq_getElem_cons (by omega)]
  rw [List.getElem?_eq_getElem (by omega)] at hcat
  rw [Option.some.inj hcat, List.cons_append, getR_cons]
  have ho : onesOf (restV n (szN n) i) = 1 := by
    have hv : restV n (szN n) i = 128 + partN n (szN n) i % 64 := rfl
    rw [hv]
    unfold onesOf
    rw [if_neg (by omega), if_pos (by omega)]
  rw [ho, if_neg (by omega), if_pos (.inl rfl)]

/-- A code's byte. -/
def bt (n i : Nat) : Nat := (codeN n).getD i 0
theorem szN_mono (n m : Nat) (h : n ≤ m) : szN n ≤ szN m := by unfold szN; (repeat' split) <;> omega
set_option maxHeartbeats 2000000 in
theorem ones_mono (x y : Nat) (h : x ≤ y) : onesOf x ≤ onesOf y := by unfold onesOf; (repeat' split) <;> omega
theorem bt_ones (n : Nat) (hn : n < 68719476736) : onesOf (bt n 0) = if szN n = 1 then 0 else szN n := by
  unfold bt
  by_cases h : szN n = 1
  · obtain ⟨e, h128⟩ := codeN_one n h
    rw [e, if_pos h]
    show onesOf n = 0
    unfold onesOf; rw [if_pos h128]
  · rw [codeN_dig n h, if_neg h]
    exact (ones_first n hn h).1
theorem bt0 (n m : Nat) (h : szN n = szN m) : (bt n 0 < bt m 0 ↔ n / 64 ^ (szN n - 1) < m / 64 ^ (szN n - 1)) ∧ (bt n 0 = bt m 0 ↔ n / 64 ^ (szN n - 1) = m / 64 ^ (szN n - 1)) := by
  unfold bt
  by_cases h1 : szN n = 1
  · rw [(codeN_one n h1).1, (codeN_one m (h ▸ h1)).1, h1]; simp
  · rw [codeN_dig n h1, codeN_dig m (h ▸ h1)]
    show (firstV n (szN n) < firstV m (szN m) ↔ _) ∧ (firstV n (szN n) = firstV m (szN m) ↔ _)
    unfold firstV
    rw [← h, part0, part0]
    omega
theorem bt_succ (n i : Nat) (hi : i + 1 < szN n) : bt n (i + 1) = 128 + n / 64 ^ (szN n - 1 - (i + 1)) % 64 := by
  have := codeN_at n (i + 1) (by omega) hi
  unfold bt
  rw [List.getD_eq_getElem?_getD, this]
  show 128 + n / 2 ^ (6 * (szN n - 1 - (i + 1))) % 64 = _
  rw [pow64]
/-- Of codes of one length that agree so far the numbers do. -/
theorem bt_agree (n m : Nat) (h : szN n = szN m) : ∀ i, i < szN n → (∀ j, j ≤ i → bt n j = bt m j) → n / 64 ^ (szN n - 1 - i) = m / 64 ^ (szN n - 1 - i)
  | 0, _, e => (bt0 n m h).2.1 (e 0 (Nat.le_refl _))
  | i + 1, hi, e => by
    have ih := bt_agree n m h i (by omega) (fun j hj => e j (by omega))
    have e1 := e (i + 1) (Nat.le_refl _)
    rw [bt_succ n i hi, bt_succ m i (h ▸ hi), ← h] at e1
    rw [show szN n - 1 - i = szN n - 1 - (i + 1) + 1 from by omega, div64, div64] at ih
    generalize n / 64 ^ (szN n - 1 - (i + 1)) = x at *
    generalize m / 64 ^ (szN n - 1 - (i + 1)) = y at *
    omega
theorem div_lt_of {n m d : Nat} (h : n / d < m / d) : n < m := by
  rcases Nat.lt_or_ge n m with h1 | h1
  · exact h1
  · have := Nat.div_le_div_right (c := d) h1; omega
theorem size_first (n m : Nat) (hn : n < 68719476736) (hm : m < 68719476736) (h : szN n < szN m) : bt n 0 < bt m 0 ∧ n < m := by
  have a := bt_ones n hn
  have b := bt_ones m hm
  have hs := szN_pos n
  constructor
  · rcases Nat.lt_or_ge (bt n 0) (bt m 0) with h1 | h1
    · exact h1
    · have := ones_mono _ _ h1
      rw [a, b] at this
      split at this <;> split at this <;> omega
  · rcases Nat.lt_or_ge n m with h1 | h1
    · exact h1
    · have := szN_mono _ _ h1; omega
theorem order_diff (n m : Nat) (hn : n < 68719476736) (hm : m < 68719476736) (i : Nat) (hi : i < szN n) (hi' : i < szN m) (heq : ∀ j, j < i → bt n j = bt m j) (hne : bt n i ≠ bt m i) : (bt n i < bt m i ↔ n < m) ∧ n ≠ m := by
  have hnm : n ≠ m := fun e => hne (by rw [e])
  refine ⟨?_, hnm⟩
  have key : szN n = szN m → (bt n i < bt m i ↔ n / 64 ^ (szN n - 1 - i) < m / 64 ^ (szN n - 1 - i)) ∧ n / 64 ^ (szN n - 1 - i) ≠ m / 64 ^ (szN n - 1 - i) := by
    intro h
    cases i with
    | zero => exact ⟨(bt0 n m h).1, fun e => hne ((bt0 n m h).2.2 e)⟩
    | succ i =>
      have ag := bt_agree n m h i (by omega) (fun j hj => heq j (by omega))
      rw [bt_succ n i hi, bt_succ m i hi', ← h] at hne ⊢
      rw [show szN n - 1 - i = szN n - 1 - (i + 1) + 1 from by omega, div64, div64] at ag
      generalize n / 64 ^ (szN n - 1 - (i + 1)) = x at *
      generalize m / 64 ^ (szN n - 1 - (i + 1)) = y at *
      omega
  have same : szN n = szN m → (bt n i < bt m i ↔ n < m) := by
    intro h
    obtain ⟨k1, k2⟩ := key h
    rw [k1]
    constructor
    · exact div_lt_of
    · intro hlt
      have := Nat.div_le_div_right (c := 64 ^ (szN n - 1 - i)) (Nat.le_of_lt hlt)
      omega
  rcases Nat.lt_trichotomy (szN n) (szN m) with h | h | h
  · obtain ⟨a, b⟩ := size_first n m hn hm h
    have h0 : i = 0 := by
      rcases Nat.eq_zero_or_pos i with h0 | h0
      · exact h0
      · have := heq 0 h0; omega
    subst h0
    exact ⟨fun _ => b, fun _ => a⟩
  · exact same h
  · obtain ⟨a, b⟩ := size_first m n hm hn h
    have h0 : i = 0 := by
      rcases Nat.eq_zero_or_pos i with h0 | h0
      · exact h0
      · have := heq 0 h0; omega
    subst h0
    exact ⟨fun h => by omega, fun h => by omega⟩
theorem order_same (n m : Nat) (hn : n < 68719476736) (hm : m < 68719476736) (heq : ∀ j, j < szN n → j < szN m → bt n j = bt m j) : n = m := by
  have hs := szN_pos n
  have hs' := szN_pos m
  rcases Nat.lt_trichotomy (szN n) (szN m) with h | h | h
  · have := (size_first n m hn hm h).1
    have := heq 0 (by omega) (by omega); omega
  · have := bt_agree n m h (szN n - 1) (by omega) (fun j hj => heq j (by omega) (by omega))
    simpa using this
  · have := (size_first m n hm hn h).1
    have := heq 0 (by omega) (by omega); omega
end Go.Proofs.YtjiopnjmklampaaDoor
