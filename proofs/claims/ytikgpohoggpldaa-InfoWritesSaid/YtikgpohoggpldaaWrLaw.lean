/-
  info.Write's bytes are the reference's: plain.
-/
import Derived.Test.YtikgpohoggpldaaRefBy
namespace Go.Proofs.Ytikgpohoggpldaa
open Go.RowKit

def bval (l : List Nat) : Nat := l.foldl (fun a b => 2 * a + b) 0
theorem bval_acc : ∀ (m : List Nat) (a : Nat), m.foldl (fun a b => 2 * a + b) a = a * 2 ^ m.length + bval m
  | [], a => by simp [bval]
  | x :: m, a => by
    have h1 := bval_acc m (2 * a + x)
    have h2 := bval_acc m (2 * 0 + x)
    simp only [bval, List.foldl_cons, List.length_cons] at *
    rw [h1, h2, Nat.pow_succ, Nat.add_mul, Nat.mul_zero, Nat.zero_add, Nat.mul_comm (2 ^ m.length) 2, ← Nat.mul_assoc, Nat.mul_comm a 2]
    omega
theorem bval_append (l m : List Nat) : bval (l ++ m) = bval l * 2 ^ m.length + bval m := by rw [bval, List.foldl_append, bval_acc]; rfl
theorem bval_snoc (l : List Nat) (x : Nat) : bval (l ++ [x]) = 2 * bval l + x := by simp [bval]
theorem bval_fbits (n c : Nat) : ∀ q, q ≤ c → bval (fbits n c q) = n / 2 ^ (c - q) % 2 ^ q
  | 0, _ => by simp [fbits, bval, Nat.mod_one]
  | q + 1, h => by
    rw [fbits_succ, bval_snoc, bval_fbits n c q (by omega)]
    have e : c - q = (c - (q + 1)) + 1 := by omega
    have e2 : c - 1 - q = c - (q + 1) := by omega
    rw [e, e2]
    generalize c - (q + 1) = m
    rw [Nat.pow_succ, Nat.pow_succ, ← Nat.div_div_eq_div_mul]
    generalize n / 2 ^ m = Y
    rw [Nat.mul_comm (2 ^ q) 2, Nat.mod_mul]
    omega
theorem bval_part (L : List Nat) (a : Nat) : ∀ k, a + k ≤ L.length → bval ((L.drop a).take k) = bitsum (fun c => L.getD (a + c) 0) k
  | 0, _ => by simp [bval, bitsum]
  | k + 1, h => by
    have hk : k < (L.drop a).length := by rw [List.length_drop]; omega
    rw [List.take_succ_eq_append_getElem hk, bval_snoc, bval_part L a k (by omega), bitsum]
    rw [List.getElem_drop, List.getD_eq_getElem?_getD, List.getElem?_eq_getElem (by omega)]
    rfl
theorem natN_pack (L : List Nat) (N : Nat) (hL : L.length = 8 * N) : ∀ j, j ≤ N → natN ((packN L).take j) = bval (L.take (8 * j))
  | 0, _ => by simp [natN, bval]
  | j + 1, h => by
    have hj : j < (packN L).length := by simp [packN]; omega
    rw [List.take_succ_eq_append_getElem hj, natN_snoc, natN_pack L N hL j (by omega)]
    have e : L.take (8 * (j + 1)) = L.take (8 * j) ++ (L.drop (8 * j)).take 8 := by
      rw [show 8 * (j + 1) = 8 * j + 8 from by omega, List.take_add]
    rw [e, bval_append, bval_part L (8 * j) 8 (by omega), List.length_take, List.length_drop, Nat.min_eq_left (by omega)]
    simp [packN]
theorem natN_pack_all (L : List Nat) (N : Nat) (hL : L.length = 8 * N) : natN (packN L) = bval L := by
  have h := natN_pack L N hL N (Nat.le_refl _)
  rw [List.take_of_length_le (by simp [packN]; omega), List.take_of_length_le (by omega)] at h
  exact h
theorem natN_lowB (n : Int) : ∀ k, ((natN (lowB n k) : Nat) : Int) = n % ((256 ^ k : Nat) : Int)
  | 0 => by simp [natN, lowB, Int.emod_one]
  | k + 1 => by
    have ih := natN_lowB n k
    have e : lowB n (k + 1) = [(n / 2 ^ (8 * k) % 256).toNat] ++ lowB n k := rfl
    rw [e, natN_append, lowB_length, Int.natCast_add, ih, Int.natCast_mul]
    have h1 := Int.emod_nonneg (n / 2 ^ (8 * k)) (show (256 : Int) ≠ 0 by omega)
    have e2 : ((natN [(n / 2 ^ (8 * k) % 256).toNat] : Nat) : Int) = n / 2 ^ (8 * k) % 256 := by simp [natN]; omega
    have e3 : ((2 : Int) ^ (8 * k)) = ((256 ^ k : Nat) : Int) := by rw [Int.pow_mul]; simp
    rw [e2, e3, Nat.pow_succ, Int.natCast_mul]
    have hp : (0 : Int) < ((256 ^ k : Nat) : Int) := by have := Nat.pow_pos (n := k) (show 0 < 256 by omega); omega
    generalize ((256 ^ k : Nat) : Int) = B at *
    have h4 := Int.emod_emod_of_dvd n (Int.dvd_mul_right B 256)
    have h5 : n % (B * 256) / B = n / B % 256 := by
      rw [Int.emod_def n (B * 256), Int.emod_def (n / B) 256, Int.ediv_ediv_of_nonneg (by omega)]
      rw [Int.mul_assoc, Int.sub_eq_add_neg, ← Int.mul_neg, Int.add_mul_ediv_left _ _ (by omega)]
      omega
    have h6 := Int.emod_add_mul_ediv (n % (B * 256)) B
    rw [h5, h4] at h6
    rw [show ((256 : Nat) : Int) = 256 from rfl, ← h6, Int.mul_comm B, Int.add_comm]
theorem natN_inj : ∀ (l m : List Nat), l.length = m.length → (∀ x ∈ l, x < 256) → (∀ x ∈ m, x < 256) → natN l = natN m → l = m
  | [], [], _, _, _, _ => rfl
  | [], _ :: _, h, _, _, _ => by simp at h
  | _ :: _, [], h, _, _, _ => by simp at h
  | x :: l, y :: m, h, hl, hm, he => by
    have h1 : natN (x :: l) = x * 256 ^ l.length + natN l := by
      have := natN_append [x] l
      simpa [natN] using this
    have h2 : natN (y :: m) = y * 256 ^ m.length + natN m := by
      have := natN_append [y] m
      simpa [natN] using this
    have hlen : l.length = m.length := by simpa using h
    have l1 := natN_lt l fun z hz => hl z (List.mem_cons_of_mem _ hz)
    have l2 := natN_lt m fun z hz => hm z (List.mem_cons_of_mem _ hz)
    rw [h1, h2, hlen] at he
    rw [hlen] at l1
    have hp : 0 < 256 ^ m.length := Nat.pow_pos (by omega)
    have hx : x = y := by
      have a1 : (x * 256 ^ m.length + natN l) / 256 ^ m.length = x := by rw [Nat.mul_comm, Nat.mul_add_div hp, Nat.div_eq_of_lt l1]; rfl
      have a2 : (y * 256 ^ m.length + natN m) / 256 ^ m.length = y := by rw [Nat.mul_comm, Nat.mul_add_div hp, Nat.div_eq_of_lt l2]; rfl
      rw [← a1, ← a2, he]
    subst hx
    have hn : natN l = natN m := by omega
    rw [natN_inj l m hlen (fun z hz => hl z (List.mem_cons_of_mem _ hz)) (fun z hz => hm z (List.mem_cons_of_mem _ hz)) hn]
theorem pack_lt (L : List Nat) (h : ∀ j, L.getD j 0 ≤ 1) : ∀ x ∈ packN L, x < 256 := by
  intro x hx
  simp only [packN, List.mem_map] at hx
  obtain ⟨j, -, rfl⟩ := hx
  exact bitsum_lt _ (fun c => h _) 8
theorem bval_full (N c : Nat) (h : N < 2 ^ c) : bval (fbits N c c) = N := by
  rw [bval_fbits N c c (Nat.le_refl _), Nat.sub_self, Nat.pow_zero, Nat.div_one, Nat.mod_eq_of_lt h]

theorem wr_eq (n : Nat → Int) (hm : mayN n = true) (R : Int) (hR : R % 18446744073709551616 = restN (n 0) (n 1) (n 2) (n 7) % 18446744073709551616) :
    packN (allF n 8) = [lowB (n 3) 2, lowB (n 4) 2, lowB (n 5) 3, lowB (n 6) 3, lowB R 8].flatten := by
  obtain ⟨b0, b1, b2, b3, b4, b5, b6, b7⟩ := mayB_true hm
  apply natN_inj
  · have := allF_length n 8 (by omega)
    simp [packN, lowB_length, this, stK]
  · exact pack_lt _ (allF_bit n 8)
  · intro x hx
    simp only [List.flatten_cons, List.flatten_nil, List.append_nil, List.mem_append] at hx
    rcases hx with h | h | h | h | h
    all_goals exact lowB_lt _ _ x h
  · rw [natN_pack_all _ 18 (allF_length n 8 (by omega))]
    have e0 : fN n 0 = (n 3).toNat := by show (n 3 - ((0 : Nat) : Int)).toNat = _; simp
    have e1 : fN n 1 = (n 4).toNat := by show (n 4 - ((0 : Nat) : Int)).toNat = _; simp
    have e2 : fN n 2 = (n 5).toNat := by show (n 5 - ((0 : Nat) : Int)).toNat = _; simp
    have e3 : fN n 3 = (n 6).toNat := by show (n 6 - ((0 : Nat) : Int)).toNat = _; simp
    have e4 : fN n 4 = (n 0).toNat := by show (n 0 - ((0 : Nat) : Int)).toNat = _; simp
    have e5 : fN n 5 = (n 1 - 1).toNat := rfl
    have e6 : fN n 6 = (n 2 - 1).toNat := rfl
    have e7 : fN n 7 = (n 7).toNat := by show (n 7 - ((0 : Nat) : Int)).toNat = _; simp
    have v0 : bval (fbits (fN n 0) 16 16) = (n 3).toNat := by rw [bval_full _ _ (by rw [e0]; omega), e0]
    have v1 : bval (fbits (fN n 1) 16 16) = (n 4).toNat := by rw [bval_full _ _ (by rw [e1]; omega), e1]
    have v2 : bval (fbits (fN n 2) 24 24) = (n 5).toNat := by rw [bval_full _ _ (by rw [e2]; omega), e2]
    have v3 : bval (fbits (fN n 3) 24 24) = (n 6).toNat := by rw [bval_full _ _ (by rw [e3]; omega), e3]
    have v4 : bval (fbits (fN n 4) 20 20) = (n 0).toNat := by rw [bval_full _ _ (by rw [e4]; omega), e4]
    have v5 : bval (fbits (fN n 5) 3 3) = (n 1 - 1).toNat := by rw [bval_full _ _ (by rw [e5]; omega), e5]
    have v6 : bval (fbits (fN n 6) 5 5) = (n 2 - 1).toNat := by rw [bval_full _ _ (by rw [e6]; omega), e6]
    have v7 : bval (fbits (fN n 7) 36 36) = (n 7).toNat := by rw [bval_full _ _ (by rw [e7]; omega), e7]
    have eL : allF n 8 = ((((((([] ++ fbits (fN n 0) 16 16) ++ fbits (fN n 1) 16 16) ++ fbits (fN n 2) 24 24) ++ fbits (fN n 3) 24 24) ++ fbits (fN n 4) 20 20) ++ fbits (fN n 5) 3 3) ++ fbits (fN n 6) 5 5) ++ fbits (fN n 7) 36 36 := rfl
    rw [eL, bval_append, bval_append, bval_append, bval_append, bval_append, bval_append, bval_append, bval_append, v0, v1, v2, v3, v4, v5, v6, v7]
    simp only [fbits_length]
    have w0 := natN_lowB (n 3) 2
    have w1 := natN_lowB (n 4) 2
    have w2 := natN_lowB (n 5) 3
    have w3 := natN_lowB (n 6) 3
    have w4 := natN_lowB R 8
    simp only [List.flatten_cons, List.flatten_nil, List.append_nil]
    rw [natN_append, natN_append, natN_append, natN_append]
    simp only [List.length_append, lowB_length, Nat.reduceAdd]
    generalize natN (lowB (n 3) 2) = a0 at *
    generalize natN (lowB (n 4) 2) = a1 at *
    generalize natN (lowB (n 5) 3) = a2 at *
    generalize natN (lowB (n 6) 3) = a3 at *
    generalize natN (lowB R 8) = a4 at *
    clear e0 e1 e2 e3 e4 e5 e6 e7 v0 v1 v2 v3 v4 v5 v6 v7 eL
    have z : bval [] = 0 := rfl
    unfold restN at hR
    simp only [Nat.reducePow] at *
    rw [z]
    generalize n 0 = m0 at *
    generalize n 1 = m1 at *
    generalize n 2 = m2 at *
    generalize n 3 = m3 at *
    generalize n 4 = m4 at *
    generalize n 5 = m5 at *
    generalize n 6 = m6 at *
    generalize n 7 = m7 at *
    obtain ⟨x0, rfl⟩ := Int.eq_ofNat_of_zero_le (show 0 ≤ m0 by omega)
    obtain ⟨x3, rfl⟩ := Int.eq_ofNat_of_zero_le (show 0 ≤ m3 by omega)
    obtain ⟨x4, rfl⟩ := Int.eq_ofNat_of_zero_le (show 0 ≤ m4 by omega)
    obtain ⟨x5, rfl⟩ := Int.eq_ofNat_of_zero_le (show 0 ≤ m5 by omega)
    obtain ⟨x6, rfl⟩ := Int.eq_ofNat_of_zero_le (show 0 ≤ m6 by omega)
    obtain ⟨x7, rfl⟩ := Int.eq_ofNat_of_zero_le (show 0 ≤ m7 by omega)
    obtain ⟨x1, h1⟩ := Int.eq_ofNat_of_zero_le (show 0 ≤ m1 - 1 by omega)
    obtain ⟨x2, h2⟩ := Int.eq_ofNat_of_zero_le (show 0 ≤ m2 - 1 by omega)
    rw [h1, h2] at hR ⊢
    simp only [Int.toNat_natCast]
    have g0 : a0 = x3 := by omega
    have g1 : a1 = x4 := by omega
    have g2 : a2 = x5 := by omega
    have g3 : a3 = x6 := by omega
    have g4 : a4 = x0 * 17592186044416 + x1 * 2199023255552 + x2 * 68719476736 + x7 := by omega
    subst g0 g1 g2 g3 g4
    clear w0 w1 w2 w3 w4 hR hm h1 h2 b0 b1 b2 b3 b4 b5 b6 b7
    omega
end Go.Proofs.Ytikgpohoggpldaa
