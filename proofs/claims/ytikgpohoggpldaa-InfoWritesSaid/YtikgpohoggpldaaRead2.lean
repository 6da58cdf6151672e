/-
  info.Read of 34 bytes.
-/
import Derived.Test.YtikgpohoggpldaaRead
namespace Go.Proofs.Ytikgpohoggpldaa
open Go.RowKit

theorem Rd.from {w : World} {b o : Nat} {xs : List Value} (h : Rd w (some ⟨b, o, none⟩) xs) (n : Nat) : Rd w (some ⟨b, o + n, none⟩) (xs.drop n) := by
  intro j u hu
  rw [List.getElem?_drop] at hu
  obtain ⟨b', o', e, hc⟩ := h (n + j) u hu
  injection e with e
  injection e with e1 e2
  subst e1 e2
  exact ⟨_, _, rfl, by rw [Nat.add_assoc]; exact hc⟩
theorem num_at (l : List Nat) (hl8 : ∀ x ∈ l, x < 256) (b o i n c B : Nat) (w : World) (hr : Rd w (some ⟨b, o, none⟩) (nv8 l)) (hin : i + n ≤ l.length) (hn : n ≤ 7) (hB : w.heap.size = B) (y : Int) (hy : (natN ((l.drop i).take n) : Int) = y) :
    Hid (∀ W : World, Below B w W → Calls Try.prog 25 #[.slice (some ⟨b, o + i, none⟩) n c] W fun e w' => e = .returned (.int .i64 y) ∧ w' = W) := by
  intro W hW
  subst hB
  have h8 : ∀ x ∈ (l.drop i).take n, x < 256 := fun x hx => hl8 x (List.mem_of_mem_drop (List.mem_of_mem_take hx))
  have hlen : ((l.drop i).take n).length = n := by rw [List.length_take, List.length_drop]; omega
  refine number_still ((l.drop i).take n) h8 _ c n W ?_ hlen (by omega) y ?_
  · rw [nv8_take, nv8_drop]
    exact ((hr.below hW).from i).take n
  · have h1 := natN_lt _ h8
    rw [hlen] at h1
    have h2 : 256 ^ n ≤ 256 ^ 7 := Nat.pow_le_pow_right (by omega) hn
    rw [← hy]
    unfold wrap64
    omega

theorem num8_at (l : List Nat) (hl8 : ∀ x ∈ l, x < 256) (b o i n c B : Nat) (w : World) (hr : Rd w (some ⟨b, o, none⟩) (nv8 l)) (hin : i + n ≤ l.length) (hn : n ≤ 8) (hB : w.heap.size = B) (y : Int) (hy : wrap64 (natN ((l.drop i).take n) : Nat) = y) :
    Hid (∀ W : World, Below B w W → Calls Try.prog 25 #[.slice (some ⟨b, o + i, none⟩) n c] W fun e w' => e = .returned (.int .i64 y) ∧ w' = W) := by
  intro W hW
  subst hB
  have h8 : ∀ x ∈ (l.drop i).take n, x < 256 := fun x hx => hl8 x (List.mem_of_mem_drop (List.mem_of_mem_take hx))
  have hlen : ((l.drop i).take n).length = n := by rw [List.length_take, List.length_drop]; omega
  refine number_still ((l.drop i).take n) h8 _ c n W ?_ hlen (by omega) y hy
  rw [nv8_take, nv8_drop]
  exact ((hr.below hW).from i).take n
theorem and_mask (X : Int) (k : Nat) (hk : k ≤ 36) : bits .and .i64 X ((2 ^ k - 1 : Nat) : Int) = X % ((2 ^ k : Nat) : Int) := by
  show IntKind.i64.wrap ((BitVec.ofInt 64 X &&& BitVec.ofInt 64 ((2 ^ k - 1 : Nat) : Int)).toNat : Int) = _
  have h1 := ofInt_any X
  have h2 := ofInt_any ((2 ^ k - 1 : Nat) : Int)
  rw [BitVec.toNat_and]
  have hq1 : 2 ^ k ≤ 2 ^ 36 := Nat.pow_le_pow_right (by omega) hk
  have hq0 : 0 < 2 ^ k := Nat.pow_pos (by omega)
  have hd : ((2 ^ k : Nat) : Int) ∣ 18446744073709551616 := by
    have : (2 ^ k : Nat) ∣ 2 ^ 64 := Nat.pow_dvd_pow 2 (by omega)
    exact Int.ofNat_dvd.2 this
  have h3 : (BitVec.ofInt 64 ((2 ^ k - 1 : Nat) : Int)).toNat = 2 ^ k - 1 := by omega
  rw [h3, Nat.and_two_pow_sub_one_eq_mod]
  generalize (BitVec.ofInt 64 X).toNat = p at *
  have h4 : ((p % 2 ^ k : Nat) : Int) = X % ((2 ^ k : Nat) : Int) := by
    rw [Int.natCast_emod, h1, Int.emod_emod_of_dvd _ hd]
  rw [h4, IntKind.wrap_i64]
  have h5 := Int.emod_nonneg X (show ((2 ^ k : Nat) : Int) ≠ 0 by omega)
  have h6 := Int.emod_lt_of_pos X (show (0 : Int) < ((2 ^ k : Nat) : Int) by omega)
  omega
theorem rR_lt (l : List Nat) (h : ∀ x ∈ l, x < 256) : rR l < 18446744073709551616 := by
  have h1 := natN_lt ((l.drop 10).take 8) fun x hx => h x (List.mem_of_mem_drop (List.mem_of_mem_take hx))
  have h2 : 256 ^ ((l.drop 10).take 8).length ≤ 256 ^ 8 := Nat.pow_le_pow_right (by omega) (by rw [List.length_take]; omega)
  exact Nat.lt_of_lt_of_le h1 h2
theorem InfAt.set0 {w : World} {g : Nat} {p0 p1 p2 a b c d e : Int} {s : Nat → Int} (h : InfAt w g p0 p1 p2 a b c d e s) (z : Int) : InfAt (w.setCell ⟨g, 0, none⟩ (.int .i64 z)) g z p1 p2 a b c d e s := hrow_set h rfl
theorem InfAt.set1 {w : World} {g : Nat} {p0 p1 p2 a b c d e : Int} {s : Nat → Int} (h : InfAt w g p0 p1 p2 a b c d e s) (z : Int) : InfAt (w.setCell ⟨g, 1, none⟩ (.int .i64 z)) g p0 z p2 a b c d e s := hrow_set h rfl
theorem InfAt.set2 {w : World} {g : Nat} {p0 p1 p2 a b c d e : Int} {s : Nat → Int} (h : InfAt w g p0 p1 p2 a b c d e s) (z : Int) : InfAt (w.setCell ⟨g, 2, none⟩ (.int .i64 z)) g p0 p1 z a b c d e s := hrow_set h rfl

theorem shr_mod (R V t A B C : Int) (hA : A ≠ 0) (h : V = R - t * (C * B * A)) : V / A % B = R / A % B := by
  have e : R - t * (C * B * A) = R + (-(t * C) * B) * A := by simp only [Int.sub_eq_add_neg, Int.neg_mul, Int.mul_assoc]
  rw [h, e, Int.add_mul_ediv_right _ _ hA, Int.add_mul_emod_self_right]
theorem wrap_minus (R : Nat) (V : Int) (hV : wrap64 (R : Int) = V) : ∃ t : Int, V = R - t * 18446744073709551616 := by
  unfold wrap64 at hV
  exact ⟨((R : Int) + 9223372036854775808) / 18446744073709551616, by omega⟩
theorem mask20 (X : Int) : bits .and .i64 X 1048575 = X % 1048576 := and_mask X 20 (by omega)
theorem mask3 (X : Int) : bits .and .i64 X 7 = X % 8 := and_mask X 3 (by omega)
theorem mask5 (X : Int) : bits .and .i64 X 31 = X % 32 := and_mask X 5 (by omega)
theorem mask36 (X : Int) : bits .and .i64 X 68719476735 = X % 68719476736 := and_mask X 36 (by omega)
theorem e0_of (l : List Nat) (V : Int) (hR : rR l < 18446744073709551616) (hV : wrap64 (rR l : Nat) = V) : bits .and .i64 (V / 17592186044416) 1048575 = (rP0 l : Int) := by
  obtain ⟨t, ht⟩ := wrap_minus _ _ hV
  rw [mask20, shr_mod (rR l) V t 17592186044416 1048576 1 (by omega) ht]
  unfold rP0
  generalize rR l = R at *
  omega
theorem e1_of (l : List Nat) (V : Int) (hV : wrap64 (rR l : Nat) = V) : wrap64 (bits .and .i64 (V / 2199023255552) 7 + 1) = (rP1 l : Int) := by
  obtain ⟨t, ht⟩ := wrap_minus _ _ hV
  rw [mask3, shr_mod (rR l) V t 2199023255552 8 1048576 (by omega) ht]
  unfold rP1
  generalize rR l = R at *
  unfold wrap64
  generalize h : (R : Int) / 2199023255552 % 8 = z
  have : z = ((R / 2199023255552 % 8 : Nat) : Int) := by rw [← h]; omega
  omega
theorem e2_of (l : List Nat) (V : Int) (hV : wrap64 (rR l : Nat) = V) : wrap64 (bits .and .i64 (V / 68719476736) 31 + 1) = (rP2 l : Int) := by
  obtain ⟨t, ht⟩ := wrap_minus _ _ hV
  rw [mask5, shr_mod (rR l) V t 68719476736 32 8388608 (by omega) ht]
  unfold rP2
  generalize rR l = R at *
  unfold wrap64
  generalize h : (R : Int) / 68719476736 % 32 = z
  have : z = ((R / 68719476736 % 32 : Nat) : Int) := by rw [← h]; omega
  omega
theorem e7_of (l : List Nat) (V : Int) (hV : wrap64 (rR l : Nat) = V) : bits .and .i64 V 68719476735 = (rTt l : Int) := by
  obtain ⟨t, ht⟩ := wrap_minus _ _ hV
  have h := shr_mod (rR l) V t 1 68719476736 268435456 (by omega) ht
  rw [Int.ediv_one, Int.ediv_one] at h
  rw [mask36, h]
  unfold rTt
  omega
theorem list16 (m : List Nat) (h : m.length = 16) : m = [m.getD 0 0, m.getD 1 0, m.getD 2 0, m.getD 3 0, m.getD 4 0, m.getD 5 0, m.getD 6 0, m.getD 7 0, m.getD 8 0, m.getD 9 0, m.getD 10 0, m.getD 11 0, m.getD 12 0, m.getD 13 0, m.getD 14 0, m.getD 15 0] := by
  match m, h with
  | [a, b, c, d, e, f, g, h, i, j, k, l, m, n, o, p], _ => rfl
theorem tail16 (l : List Nat) (h : l.length = 34) : nv8 (l.drop 18) = [.int .u8 (rS l 0), .int .u8 (rS l 1), .int .u8 (rS l 2), .int .u8 (rS l 3), .int .u8 (rS l 4), .int .u8 (rS l 5), .int .u8 (rS l 6), .int .u8 (rS l 7), .int .u8 (rS l 8), .int .u8 (rS l 9), .int .u8 (rS l 10), .int .u8 (rS l 11), .int .u8 (rS l 12), .int .u8 (rS l 13), .int .u8 (rS l 14), .int .u8 (rS l 15)] := by
  have h1 := list16 (l.drop 18) (by rw [List.length_drop]; omega)
  have h2 : ∀ i, (((l.drop 18).getD i 0 : Nat) : Int) = rS l i := fun i => by
    unfold rS
    rw [List.getD_eq_getElem?_getD, List.getD_eq_getElem?_getD, List.getElem?_drop]
  rw [h1]
  simp only [nv8, List.map_cons, List.map_nil, h2]
end Go.Proofs.Ytikgpohoggpldaa
