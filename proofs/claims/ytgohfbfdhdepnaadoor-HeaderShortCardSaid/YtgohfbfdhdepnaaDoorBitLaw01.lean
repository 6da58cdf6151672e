/-
  Bits that are read, and written: plain.
-/
import Derived.Test.YtgohfbfdhdepnaaDoorRefB01
namespace Go.Proofs.YtgohfbfdhdepnaaDoor
open Go.RowKit

theorem sg_bit {f : Nat → Nat} (hf : ∀ i, f i < 2) (t n i : Nat) (hi : i < n) : sg f t n / 2 ^ (n - 1 - i) % 2 = f (t + i) := by
  have h := sg_add f t (i + 1) (n - 1 - i)
  rw [show i + 1 + (n - 1 - i) = n from by omega] at h
  have hlt := sg_lt hf (t + (i + 1)) (n - 1 - i)
  rw [h, Nat.mul_comm, Nat.mul_add_div (Nat.pow_pos (by omega)), Nat.div_eq_of_lt hlt, Nat.add_zero, sg]
  have := hf (t + i)
  omega
theorem vb_sg {f : Nat → Nat} (hf : ∀ i, f i < 2) (t n : Nat) : vb (sg f t n) n = (List.range n).map fun i => f (t + i) := by
  unfold vb
  refine List.map_congr_left fun i hi => ?_
  exact sg_bit hf t n i (List.mem_range.1 hi)
theorem bitL_add (l : List UInt8) (t n : Nat) : bitL l t ++ (List.range n).map (fun i => bitAt l (t + i)) = bitL l (t + n) := by
  unfold bitL
  rw [List.range_add, List.map_append, List.map_map]; rfl
theorem bitL_lt (l : List UInt8) (t : Nat) : ∀ b ∈ bitL l t, b < 2 := by
  intro b hb
  simp only [bitL, List.mem_map] at hb
  obtain ⟨i, -, rfl⟩ := hb
  exact bitAt_lt l i
theorem bitL_get (l : List UInt8) (t i : Nat) (h : i < t) : (bitL l t).getD i 0 = bitAt l i := by
  rw [List.getD_eq_getElem?_getD, List.getElem?_eq_getElem (by rw [bitL_length]; exact h)]
  simp [bitL]
/-- The bytes of the bits of bytes. -/
theorem pkL_bitL (l : List UInt8) : pkL (bitL l (8 * l.length)) = l := by
  refine List.ext_getElem (by rw [pkL_length, bitL_length]; omega) fun i h1 h2 => ?_
  have e : byteAt (bitL l (8 * l.length)) i = (l[i]).toNat := by
    have h3 : byteAt (bitL l (8 * l.length)) i = sg (bitAt l) (8 * i) 8 := sg_congr _ _ fun j hj => bitL_get l _ _ (by omega)
    have h4 := sg_byte l (8 * i) 8 (by omega)
    rw [h3, h4, show 8 * i / 8 = i from by omega, show 8 - 8 * i % 8 - 8 = 0 from by omega, Nat.pow_zero, Nat.div_one, List.getD_eq_getElem?_getD, List.getElem?_eq_getElem h2]
    exact Nat.mod_eq_of_lt (l[i]).toNat_lt
  simp only [pkL, List.getElem_map, List.getElem_range]
  rw [e]
  simp
/-- The bits of the bytes of bits. -/
theorem bitAt_pkL {bs : List Nat} (h : ∀ b ∈ bs, b < 2) (t : Nat) : bitAt (pkL bs) t = bs.getD t 0 := by
  have hf : ∀ i, (fun t => bs.getD t 0) i < 2 := fun i => getD_lt h i
  rcases Nat.lt_or_ge (t / 8) ((bs.length + 7) / 8) with h1 | h1
  · have e : ((pkL bs).getD (t / 8) 0).toNat = byteAt bs (t / 8) := by
      rw [List.getD_eq_getElem?_getD, List.getElem?_eq_getElem (by rw [pkL_length]; exact h1)]
      simp only [pkL, List.getElem_map, List.getElem_range, Option.getD_some]
      have := byteAt_lt h (t / 8)
      rw [UInt8.toNat_ofNat', Nat.mod_eq_of_lt (by omega)]
    have h2 := sg_bit hf (8 * (t / 8)) 8 (t % 8) (by omega)
    rw [bitAt, e, byteAt, show 7 - t % 8 = 8 - 1 - t % 8 from by omega, h2, show 8 * (t / 8) + t % 8 = t from by omega]
  · rw [bitAt, getD_out bs t (by omega), List.getD_eq_getElem?_getD, List.getElem?_eq_none (by rw [pkL_length]; exact h1)]
    simp
end Go.Proofs.YtgohfbfdhdepnaaDoor
