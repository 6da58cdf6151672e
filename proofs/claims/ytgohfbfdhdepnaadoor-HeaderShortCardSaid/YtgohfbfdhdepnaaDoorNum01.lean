/-
  jetsamref01.Number: the walk.
-/
import Derived.Test.YtgohfbfdhdepnaaDoorBitLaw01
namespace Go.Proofs.YtgohfbfdhdepnaaDoor
open Go.RowKit

/-- The number of the first k of some bits; s: the first one is less. -/
def numZ (m : List Nat) (s : Bool) (k : Nat) : Int := (sg (fun i => m.getD i 0) 0 k : Int) - (if s = true ∧ 0 < k then (m.getD 0 0 : Int) * 2 ^ k else 0)
theorem sg_head {m : List Nat} (h : ∀ b ∈ m, b < 2) : ∀ k, m.getD 0 0 * 2 ^ k ≤ sg (fun i => m.getD i 0) 0 (k + 1)
  | 0 => by simp [sg]
  | k + 1 => by
    have := sg_head h k
    rw [sg, Nat.pow_succ]
    rw [← Nat.mul_assoc]
    omega
theorem numZ_bd {m : List Nat} (h : ∀ b ∈ m, b < 2) (s : Bool) (k : Nat) (hk : k ≤ 48) : -281474976710656 ≤ numZ m s k ∧ numZ m s k ≤ 281474976710656 := by
  have h1 := sg_lt (f := fun i => m.getD i 0) (fun i => getD_lt h i) 0 k
  have h2 : (2 : Nat) ^ k ≤ 2 ^ 48 := Nat.pow_le_pow_right (by omega) hk
  have h3 := getD_lt h 0
  have e : ((2 : Int) ^ k) = ((2 ^ k : Nat) : Int) := by simp
  unfold numZ
  rw [e]
  generalize sg (fun i => m.getD i 0) 0 k = S at *
  generalize (2 : Nat) ^ k = K at *
  generalize m.getD 0 0 = b at *
  have h4 : b * K ≤ K := by
    have : b ≤ 1 := by omega
    calc b * K ≤ 1 * K := Nat.mul_le_mul_right _ this
      _ = K := Nat.one_mul _
  have e2 : ((b : Int) * (K : Int)) = ((b * K : Nat) : Int) := by simp
  rw [e2]
  generalize b * K = q at *
  split <;> omega
theorem numZ_step (m : List Nat) (s : Bool) (k : Nat) (h : s = false ∨ 0 < k) : numZ m s (k + 1) = 2 * numZ m s k + (m.getD k 0 : Int) := by
  unfold numZ
  rw [sg, Nat.zero_add]
  cases s with
  | false => simp
  | true =>
    have hk : 0 < k := by simpa using h
    rw [if_pos ⟨rfl, by omega⟩, if_pos ⟨rfl, hk⟩, Int.pow_succ]
    generalize sg (fun i => m.getD i 0) 0 k = S at *
    have : (m.getD 0 0 : Int) * (2 ^ k * 2) = 2 * ((m.getD 0 0 : Int) * 2 ^ k) := by rw [← Int.mul_assoc, Int.mul_comm]
    rw [this]
    generalize (m.getD 0 0 : Int) * 2 ^ k = q at *
    generalize m.getD k 0 = b at *
    omega
theorem numZ_first (m : List Nat) : numZ m true 1 = -(m.getD 0 0 : Int) := by
  unfold numZ
  rw [if_pos ⟨rfl, by omega⟩]
  simp [sg]
  omega
theorem iv8_get (l : List Nat) (j : Nat) (h : j < l.length) : (iv8 l)[j]? = some (.int .i64 ((l.getD j 0 : Nat) : Int)) := by
  simp [iv8, List.getD_eq_getElem?_getD, List.getElem?_eq_getElem h]
set_option maxHeartbeats 1000000 in
theorem Number_any (m : List Nat) (s : Bool) (hb : ∀ b ∈ m, b < 2) (hl : m.length ≤ 48) (A : Option Addr) (c : Nat) (w : World) (hr : Rd w A (iv8 m)) :
    Calls Tryd.prog 59 #[.slice A m.length c, .bool s] w fun e w' => e = .returned (.int .i64 (numZ m s m.length)) ∧ w' = w := by
  have Hr := Lib.hid hr
  have Hbd := Lib.hid (numZ_bd hb s)
  have HgL := Lib.hid (getD_lt hb)
  clear hr hb
  go_enter Tryd.func59, Tryd.ntmps59
  go_wp2_with fail
  go_loop [5, 6] (fun nv iv => ∃ k : Nat, k ≤ m.length ∧ iv = .int .i64 (k : Int) ∧ nv = .int .i64 (numZ m s k)) (fun _ iv => m.length - (intOf iv).toNat)
  case atStart => exact ⟨0, by omega, rfl, by simp [numZ, sg]⟩
  case round =>
    obtain ⟨k, hk, rfl, rfl⟩ := hrel
    by_cases hkk : k < m.length
    · obtain ⟨b, o, rfl, hc⟩ := Hr.out k _ (iv8_get m k hkk)
      obtain ⟨bd1, bd2⟩ := Hbd.out k (by omega)
      have hbk := HgL.out k
      have hi1 : (k : Int) < m.length := by omega
      by_cases h0 : s = true ∧ k = 0
      · obtain ⟨rfl, rfl⟩ := h0
        have Hst := Lib.hid (numZ_first m)
        have hz : numZ m true 0 = 0 := by simp [numZ, sg]
        rw [hz]
        clear hz bd1 bd2
        simp only [Nat.add_zero] at hc
        generalize m.getD 0 0 = x at *
        go_wp2_with fail
        go_round
        case rel => exact ⟨1, by omega, rfl, by rw [Hst.out]⟩
        case measure => simp [intOf] <;> omega
      · have hs : s = false ∨ 0 < k := by
          cases s with
          | false => exact .inl rfl
          | true => right; rcases Nat.eq_zero_or_pos k with h | h; exact absurd ⟨rfl, h⟩ h0; exact h
        have Hst := Lib.hid (numZ_step m s k hs)
        generalize numZ m s k = n at *
        generalize m.getD k 0 = x at *
        rcases hs with rfl | hs
        · clear h0
          by_cases hk0 : k = 0
          · subst hk0
            simp only [Nat.add_zero] at hc
            go_wp2_with fail
            go_round
            case rel => exact ⟨1, by omega, rfl, by rw [Hst.out]⟩
            case measure => simp [intOf] <;> omega
          · have hk0' : ((k : Int) == 0) = false := by rw [beq_eq_false_iff_ne]; omega
            clear hk0
            go_wp2_with fail
            go_round
            case rel => exact ⟨k + 1, by omega, by go_num, by rw [Hst.out]⟩
            case measure => simp [intOf] <;> omega
        · have hk0' : ((k : Int) == 0) = false := by rw [beq_eq_false_iff_ne]; omega
          clear h0
          go_wp2_with fail
          go_round
          case rel => exact ⟨k + 1, by omega, by go_num, by rw [Hst.out]⟩
          case measure => simp [intOf] <;> omega
    · obtain rfl : k = m.length := by omega
      go_wp2_with fail
      go_ret
      exact ⟨rfl, rfl⟩
/-- What Number tells of the bits of bytes. -/
theorem numZ_u (f : Nat → Nat) (m : List Nat) (t : Nat) (h : ∀ i, i < m.length → m.getD i 0 = f (t + i)) : numZ m false m.length = (sg f t m.length : Nat) := by
  unfold numZ
  rw [if_neg (fun h => by cases h.1), Int.sub_zero]
  have key : ∀ n, n ≤ m.length → sg (fun i => m.getD i 0) 0 n = sg f t n := by
    intro n
    induction n with
    | zero => intro _; rfl
    | succ n ih => intro hn; rw [sg, sg, ih (by omega), Nat.zero_add, h n (by omega)]
  rw [key _ (Nat.le_refl _)]
theorem sg_top {f : Nat → Nat} (h : ∀ i, f i < 2) (t : Nat) : ∀ k, sg f t (k + 1) / 2 ^ k = f t
  | 0 => by simp [sg]
  | k + 1 => by
    have e := sg_top h t k
    have hb := h (t + (k + 1))
    rw [sg, Nat.pow_succ, Nat.mul_comm (2 ^ k) 2, ← Nat.div_div_eq_div_mul]
    rw [show (2 * sg f t (k + 1) + f (t + (k + 1))) / 2 = sg f t (k + 1) from by omega]
    exact e
theorem numZ_s (f : Nat → Nat) (hf : ∀ i, f i < 2) (m : List Nat) (t : Nat) (h : ∀ i, i < m.length → m.getD i 0 = f (t + i)) : numZ m true m.length = sgS f t m.length := by
  have h1 := numZ_u f m t h
  unfold numZ at h1 ⊢
  rw [if_neg (fun h => by cases h.1), Int.sub_zero] at h1
  rw [h1]
  unfold sgS
  rcases Nat.eq_zero_or_pos m.length with h0 | h0
  · rw [h0]; simp [sg]
  · obtain ⟨k, hk⟩ : ∃ k, m.length = k + 1 := ⟨m.length - 1, by omega⟩
    have h2 := sg_top hf t k
    have h3 : m.getD 0 0 = f t := by have := h 0 h0; simpa using this
    rw [hk, Nat.add_sub_cancel, h2, if_pos ⟨rfl, by omega⟩, h3]
    have h4 := hf t
    rcases (show f t = 0 ∨ f t = 1 by omega) with h5 | h5
    · rw [h5, if_neg (by omega)]; simp
    · rw [h5, if_pos (by omega)]; simp
end Go.Proofs.YtgohfbfdhdepnaaDoor
