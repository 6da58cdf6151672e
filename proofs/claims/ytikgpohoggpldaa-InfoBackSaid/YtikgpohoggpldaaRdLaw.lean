/-
  info.Read and the reference's Read are one: plain.
-/
import Derived.Test.YtikgpohoggpldaaPlain
namespace Go.Proofs.Ytikgpohoggpldaa
open Go.RowKit

theorem natN_acc2 : ∀ (m : List Nat) (a : Nat), m.foldl (fun n x => n * 256 + x) a = a * 256 ^ m.length + natN m
  | [], a => by simp [natN]
  | x :: m, a => by
    have h1 := natN_acc2 m (a * 256 + x)
    have h2 := natN_acc2 m (0 * 256 + x)
    simp only [natN, List.foldl_cons, List.length_cons] at *
    rw [h1, h2, Nat.pow_succ, Nat.add_mul, Nat.zero_mul, Nat.zero_add, Nat.mul_assoc, Nat.mul_comm 256, Nat.add_assoc]
theorem natN_append (l m : List Nat) : natN (l ++ m) = natN l * 256 ^ m.length + natN m := by
  rw [natN, List.foldl_append, natN_acc2]; rfl
theorem natN_part (l : List Nat) (h : ∀ x ∈ l, x < 256) (i n : Nat) (hin : i + n ≤ l.length) : natN ((l.drop i).take n) = natN l / 256 ^ (l.length - i - n) % 256 ^ n := by
  have e : l = l.take i ++ (l.drop i).take n ++ (l.drop i).drop n := by rw [List.append_assoc, List.take_append_drop, List.take_append_drop]
  have h1 := natN_lt ((l.drop i).take n) fun x hx => h x (List.mem_of_mem_drop (List.mem_of_mem_take hx))
  have h2 := natN_lt ((l.drop i).drop n) fun x hx => h x (List.mem_of_mem_drop (List.mem_of_mem_drop hx))
  have l1 : ((l.drop i).take n).length = n := by rw [List.length_take, List.length_drop]; omega
  have l2 : ((l.drop i).drop n).length = l.length - i - n := by rw [List.length_drop, List.length_drop]
  rw [l1] at h1
  rw [l2] at h2
  have e2 : natN l = (natN (l.take i) * 256 ^ n + natN ((l.drop i).take n)) * 256 ^ (l.length - i - n) + natN ((l.drop i).drop n) := by
    conv => lhs; rw [e]
    rw [natN_append, natN_append, l1, l2]
  rw [e2, Nat.add_comm, Nat.add_mul_div_right _ _ (Nat.pow_pos (by omega)), Nat.div_eq_of_lt h2, Nat.zero_add, Nat.add_comm, Nat.add_mul_mod_self_right, Nat.mod_eq_of_lt h1]
theorem low_bit (Y r : Nat) (hr : r < 8) : Y % 256 / 2 ^ r % 2 = Y / 2 ^ r % 2 := by
  match r, hr with
  | 0, _ => omega
  | 1, _ => omega
  | 2, _ => omega
  | 3, _ => omega
  | 4, _ => omega
  | 5, _ => omega
  | 6, _ => omega
  | 7, _ => omega
  | r + 8, h => omega
theorem bitN_eq (l : List Nat) (h : ∀ x ∈ l, x < 256) (i : Nat) (hi : i < 8 * l.length) : bitN l i = natN l / 2 ^ (8 * l.length - 1 - i) % 2 := by
  have h1 := natN_part l h (i / 8) 1 (by omega)
  have hlt : i / 8 < l.length := by omega
  have e1 : (l.drop (i / 8)).take 1 = [l.getD (i / 8) 0] := by
    rw [List.drop_eq_getElem_cons hlt, List.take_succ_cons, List.take_zero, List.getD_eq_getElem?_getD, List.getElem?_eq_getElem hlt]; rfl
  rw [e1] at h1
  have e2 : natN [l.getD (i / 8) 0] = l.getD (i / 8) 0 := by simp [natN]
  rw [e2] at h1
  unfold bitN
  have e3 : (256 : Nat) ^ (l.length - i / 8 - 1) = 2 ^ (8 * (l.length - i / 8 - 1)) := by rw [Nat.pow_mul]
  have e4 : 8 * (l.length - i / 8 - 1) + (7 - i % 8) = 8 * l.length - 1 - i := by omega
  rw [h1, Nat.pow_one, low_bit _ _ (by omega), Nat.div_div_eq_div_mul, e3, ← Nat.pow_add, e4]
theorem bitsN_eq (l : List Nat) (h : ∀ x ∈ l, x < 256) (a : Nat) : ∀ c, a + c ≤ 8 * l.length → bitsN l a c = natN l / 2 ^ (8 * l.length - a - c) % 2 ^ c
  | 0, _ => by simp [bitsN, Nat.mod_one]
  | c + 1, hc => by
    have ih := bitsN_eq l h a c (by omega)
    have hb := bitN_eq l h (a + c) (by omega)
    rw [bitsN, ih, hb]
    have e1 : 8 * l.length - a - c = (8 * l.length - a - (c + 1)) + 1 := by omega
    have e2 : 8 * l.length - 1 - (a + c) = 8 * l.length - a - (c + 1) := by omega
    rw [e1, e2]
    generalize 8 * l.length - a - (c + 1) = m
    rw [Nat.pow_succ, Nat.pow_succ, ← Nat.div_div_eq_div_mul]
    generalize natN l / 2 ^ m = Y
    rw [Nat.mul_comm (2 ^ c) 2, Nat.mod_mul]
    omega
theorem part_bits (X a b c : Nat) : X / 2 ^ b % 2 ^ (a + c) / 2 ^ a = X / 2 ^ (a + b) % 2 ^ c := by
  rw [Nat.pow_add, Nat.mod_mul_right_div_self, Nat.div_div_eq_div_mul, ← Nat.pow_add, Nat.add_comm b a]
theorem nK_8 (l : List Nat) (h : ∀ x ∈ l, x < 256) (hl : l.length = 34) :
    nK l 8 0 = rP0 l ∧ nK l 8 1 = rP1 l ∧ nK l 8 2 = rP2 l ∧ nK l 8 3 = rMn l ∧ nK l 8 4 = rMx l ∧ nK l 8 5 = rMf l ∧ nK l 8 6 = rXf l ∧ nK l 8 7 = rTt l := by
  have b0 := bitsN_eq l h 0 16 (by omega)
  have b1 := bitsN_eq l h 16 16 (by omega)
  have b2 := bitsN_eq l h 32 24 (by omega)
  have b3 := bitsN_eq l h 56 24 (by omega)
  have b4 := bitsN_eq l h 80 20 (by omega)
  have b5 := bitsN_eq l h 100 3 (by omega)
  have b6 := bitsN_eq l h 103 5 (by omega)
  have b7 := bitsN_eq l h 108 36 (by omega)
  have p0 := natN_part l h 0 2 (by omega)
  have p1 := natN_part l h 2 2 (by omega)
  have p2 := natN_part l h 4 3 (by omega)
  have p3 := natN_part l h 7 3 (by omega)
  have p4 := natN_part l h 10 8 (by omega)
  rw [List.drop_zero] at p0
  rw [hl] at b0 b1 b2 b3 b4 b5 b6 b7 p0 p1 p2 p3 p4
  simp only [show (256 : Nat) = 2 ^ 8 from rfl, ← Nat.pow_mul, Nat.reduceMul, Nat.reduceSub] at *
  have q4 := part_bits (natN l) 44 128 20
  have q5 := part_bits (natN l) 41 128 23
  have q6 := part_bits (natN l) 36 128 28
  simp only [Nat.reduceAdd] at q4 q5 q6
  have m5 : natN l / 2 ^ 169 % 2 ^ 23 % 2 ^ 3 = natN l / 2 ^ 169 % 2 ^ 3 := Nat.mod_mod_of_dvd _ (Nat.pow_dvd_pow 2 (by omega))
  have m6 : natN l / 2 ^ 164 % 2 ^ 28 % 2 ^ 5 = natN l / 2 ^ 164 % 2 ^ 5 := Nat.mod_mod_of_dvd _ (Nat.pow_dvd_pow 2 (by omega))
  have m7 : natN l / 2 ^ 128 % 2 ^ 64 % 2 ^ 36 = natN l / 2 ^ 128 % 2 ^ 36 := Nat.mod_mod_of_dvd _ (Nat.pow_dvd_pow 2 (by omega))
  rw [← p4] at q4 q5 q6 m7
  rw [← q5] at m5
  rw [← q6] at m6
  have f4 : nK l 8 0 = ((bitsN l 80 20 + 0 : Nat) : Int) := rfl
  have f5 : nK l 8 1 = ((bitsN l 100 3 + 1 : Nat) : Int) := rfl
  have f6 : nK l 8 2 = ((bitsN l 103 5 + 1 : Nat) : Int) := rfl
  have f0 : nK l 8 3 = ((bitsN l 0 16 + 0 : Nat) : Int) := rfl
  have f1 : nK l 8 4 = ((bitsN l 16 16 + 0 : Nat) : Int) := rfl
  have f2 : nK l 8 5 = ((bitsN l 32 24 + 0 : Nat) : Int) := rfl
  have f3 : nK l 8 6 = ((bitsN l 56 24 + 0 : Nat) : Int) := rfl
  have f7 : nK l 8 7 = ((bitsN l 108 36 + 0 : Nat) : Int) := rfl
  refine ⟨?_, ?_, ?_, ?_, ?_, ?_, ?_, ?_⟩
  · rw [f4, b4, ← q4]; rfl
  · rw [f5, b5, ← m5]; rfl
  · rw [f6, b6, ← m6]; rfl
  · rw [f0, b0, ← p0]; rfl
  · rw [f1, b1, ← p1]; rfl
  · rw [f2, b2, ← p2]; rfl
  · rw [f3, b3, ← p3]; rfl
  · rw [f7, b7, ← m7]; rfl
theorem sK_16 (l : List Nat) : ∀ k i, i < k → sK l k i = rS l i
  | 0, i, h => by omega
  | k + 1, i, h => by
    show upd (sK l k) k (rS l k) i = _
    unfold upd
    by_cases e : i = k
    · rw [if_pos e, e]
    · rw [if_neg e]; exact sK_16 l k i (by omega)
theorem refV_eq (l : List Nat) (h : ∀ x ∈ l, x < 256) (hl : l.length = 34) :
    ofV (nK l 8 0) (nK l 8 1) (nK l 8 2) (nK l 8 3) (nK l 8 4) (nK l 8 5) (nK l 8 6) (nK l 8 7) (sK l 16) = rV l := by
  obtain ⟨h0, h1, h2, h3, h4, h5, h6, h7⟩ := nK_8 l h hl
  rw [h0, h1, h2, h3, h4, h5, h6, h7]
  unfold rV ofV
  rw [sK_16 l 16 0 (by omega), sK_16 l 16 1 (by omega), sK_16 l 16 2 (by omega), sK_16 l 16 3 (by omega), sK_16 l 16 4 (by omega), sK_16 l 16 5 (by omega), sK_16 l 16 6 (by omega), sK_16 l 16 7 (by omega), sK_16 l 16 8 (by omega), sK_16 l 16 9 (by omega), sK_16 l 16 10 (by omega), sK_16 l 16 11 (by omega), sK_16 l 16 12 (by omega), sK_16 l 16 13 (by omega), sK_16 l 16 14 (by omega), sK_16 l 16 15 (by omega)]
end Go.Proofs.Ytikgpohoggpldaa
