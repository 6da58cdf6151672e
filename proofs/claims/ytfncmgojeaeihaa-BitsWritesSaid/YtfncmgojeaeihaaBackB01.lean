/-
  What is written is read as it was: plain.
-/
import Derived.Test.YtfncmgojeaeihaaBitLaw01
namespace Go.Proofs.Ytfncmgojeaeihaa
open Go.RowKit

/-- The bits m stand at place t of the bytes l. -/
def Stands (l : List UInt8) (t : Nat) (m : List Nat) : Prop := t + m.length ≤ 8 * l.length ∧ (∀ i, i < m.length → bitAt l (t + i) = m.getD i 0)
theorem stands_pkL {pre m post : List Nat} (h : ∀ b ∈ pre ++ m ++ post, b < 2) : Stands (pkL (pre ++ m ++ post)) pre.length m := by
  refine ⟨?_, fun i hi => ?_⟩
  · rw [pkL_length, List.length_append, List.length_append]; omega
  · rw [bitAt_pkL h, List.append_assoc, getD_right, getD_left _ _ _ hi]
theorem Stands.sg {l : List UInt8} {t : Nat} {m : List Nat} (h : Stands l t m) : sg (bitAt l) t m.length = sg (fun i => m.getD i 0) 0 m.length := by
  have key : ∀ n, n ≤ m.length → Go.Proofs.Ytfncmgojeaeihaa.sg (bitAt l) t n = Go.Proofs.Ytfncmgojeaeihaa.sg (fun i => m.getD i 0) 0 n := by
    intro n
    induction n with
    | zero => intro _; rfl
    | succ n ih => intro hn; rw [Go.Proofs.Ytfncmgojeaeihaa.sg, Go.Proofs.Ytfncmgojeaeihaa.sg, ih (by omega), h.2 n (by omega), Nat.zero_add]
  exact key _ (Nat.le_refl _)
theorem sg_vb (v n : Nat) (hv : v < 2 ^ n) : sg (fun i => (vb v n).getD i 0) 0 n = v := by
  have h := vb_part v n 0 n (by omega)
  rw [List.drop_zero, List.take_of_length_le (by rw [vb_length]; exact Nat.le_refl _), show n - 0 - n = 0 from by omega, Nat.pow_zero, Nat.div_one, Nat.mod_eq_of_lt hv] at h
  exact h
theorem read_put {l : List UInt8} {t v n : Nat} (h : Stands l t (vb v n)) (hv : v < 2 ^ n) : sg (bitAt l) t n = v := by
  have := h.sg
  rw [vb_length, sg_vb v n hv] at this
  exact this
theorem read_signed {l : List UInt8} {t k : Nat} {v : Int} (h : Stands l t (vb (v % 2 ^ (k + 1)).toNat (k + 1))) (h1 : -2 ^ k ≤ v) (h2 : v < 2 ^ k) : sgS (bitAt l) t (k + 1) = v := by
  have ek : ((2 : Int) ^ k) = ((2 ^ k : Nat) : Int) := by simp
  have eq : ((2 : Int) ^ (k + 1)) = 2 * ((2 ^ k : Nat) : Int) := by rw [Int.pow_succ, ek, Int.mul_comm]
  have en : (2 : Nat) ^ (k + 1) = 2 * 2 ^ k := by rw [Nat.pow_succ, Nat.mul_comm]
  have hK : 0 < (2 : Nat) ^ k := Nat.pow_pos (by omega)
  have hz0 : 0 ≤ v % 2 ^ (k + 1) := Int.emod_nonneg _ (by rw [eq]; clear en ek eq h1 h2; omega)
  have hz1 : v % 2 ^ (k + 1) < 2 ^ (k + 1) := Int.emod_lt_of_pos _ (by rw [eq]; clear en ek eq h1 h2 hz0; omega)
  have hlt : (v % 2 ^ (k + 1)).toNat < 2 ^ (k + 1) := by
    rw [en]
    rw [eq] at hz0 hz1 ⊢
    generalize v % (2 * ((2 ^ k : Nat) : Int)) = z at *
    clear ek eq en h1 h2 h
    generalize (2 : Nat) ^ k = K at *
    omega
  have hs := read_put h hlt
  unfold sgS
  rw [hs, Nat.add_sub_cancel, eq]
  rw [ek] at h1 h2
  clear hs h hz0 hz1 hlt ek eq en
  generalize (2 : Nat) ^ k = K at *
  rcases (show v < 0 ∨ 0 ≤ v by omega) with hv | hv
  · have e : v % (2 * (K : Int)) = v + 2 * K := by
      rw [← Int.add_emod_right]
      exact Int.emod_eq_of_lt (by omega) (by omega)
    rw [e]
    have e2 : (v + 2 * (K : Int)).toNat / K = 1 := Nat.div_eq_of_lt_le (by omega) (by omega)
    rw [if_pos ⟨by omega, e2⟩]
    omega
  · have e : v % (2 * (K : Int)) = v := Int.emod_eq_of_lt hv (by omega)
    rw [e]
    have e2 : v.toNat / K = 0 := Nat.div_eq_of_lt (by omega)
    rw [if_neg (fun h => by rw [e2] at h; exact absurd h.2 (by decide))]
    omega
theorem sg_zb {l : List UInt8} {t n : Nat} (h : Stands l t (zb n)) : sg (bitAt l) t n = 0 := by
  refine sg_zero _ _ fun i hi => ?_
  rw [h.2 i (by rw [zb_length]; exact hi)]
  simp [zb, List.getD_eq_getElem?_getD, List.getElem?_replicate, hi]
theorem read_unary {l : List UInt8} {t n : Nat} (h : Stands l t (zb n ++ [1])) : zs (bitAt l) t (8 * l.length - t) = n ∧ n < 8 * l.length - t := by
  have hl : t + (n + 1) ≤ 8 * l.length := by have := h.1; simp [zb_length] at this; omega
  have h1 : ∀ i, i < n → bitAt l (t + i) ≠ 1 := by
    intro i hi
    rw [h.2 i (by simp [zb_length]; omega), getD_left _ _ _ (by rw [zb_length]; exact hi)]
    simp [zb, List.getD_eq_getElem?_getD, List.getElem?_replicate, hi]
  have h2 : bitAt l (t + n) = 1 := by
    rw [h.2 n (by simp [zb_length])]
    have := getD_right (zb n) [1] 0
    rw [zb_length, Nat.add_zero] at this
    rw [this]; rfl
  have h3 := zs_skip (bitAt l) n (8 * l.length - t) t h1 (by omega)
  rw [show 8 * l.length - t - n = 8 * l.length - t - n - 1 + 1 from by omega, zs, if_pos h2] at h3
  exact ⟨h3, by omega⟩
end Go.Proofs.Ytfncmgojeaeihaa
