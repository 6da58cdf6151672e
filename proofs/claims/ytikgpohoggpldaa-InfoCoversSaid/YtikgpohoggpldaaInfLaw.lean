/-
  The plain laws of chapter 11's InfoOf.
-/
import Derived.Test.YtikgpohoggpldaaInfRef
namespace Go.Proofs.Ytikgpohoggpldaa

theorem mxI16_le (x : Int) : 16 ≤ mxI 16 x := by unfold mxI; split <;> omega
theorem mnP_le (f : Nat → Int) : ∀ k, 16 ≤ mnP f k
  | 0 => mxI16_le _
  | _ + 1 => mxI16_le _
theorem mnP_step (f : Nat → Int) (k : Nat) : mnP f (k + 1) = if f k < mnP f k then mxI 16 (f k) else mnP f k := by
  have h := mnP_le f k
  show mxI 16 (mnI (mnP f k) (f k)) = _
  unfold mnI
  split
  · rfl
  · unfold mxI; split <;> omega
theorem mnP_one (f : Nat → Int) : mnP f 1 = mxI 16 (f 0) := by
  rw [mnP_step]
  show (if f 0 < mxI 16 (f 0) then mxI 16 (f 0) else mxI 16 (f 0)) = _
  split <;> rfl
theorem mnR_in (n : Nat) (f : Nat → Int) : ∀ k, k + 1 ≤ max 1 (n - 1) → mnR n f (k + 1) = mnP f (k + 1)
  | 0, _ => by rw [mnP_one]; exact if_pos (Or.inl rfl)
  | k + 1, h => by
    have ih := mnR_in n f k (by omega)
    rw [mnP_step, ← ih]
    show (if k + 1 = 0 ∨ (k + 1 + 1 < n ∧ f (k + 1) < mnR n f (k + 1)) then mxI 16 (f (k + 1)) else mnR n f (k + 1)) = _
    by_cases hx : f (k + 1) < mnR n f (k + 1)
    · rw [if_pos hx, if_pos (Or.inr ⟨by omega, hx⟩)]
    · rw [if_neg hx, if_neg (fun h => by rcases h with h | h; omega; exact hx h.2)]
theorem mnR_eq (n : Nat) (f : Nat → Int) (hn : 0 < n) : mnR n f n = mnP f (max 1 (n - 1)) := by
  rcases Nat.lt_or_ge 1 n with h | h
  · obtain ⟨k, rfl⟩ : ∃ k, n = k + 2 := ⟨n - 2, by omega⟩
    have h1 := mnR_in (k + 2) f k (by omega)
    show (if k + 1 = 0 ∨ (k + 1 + 1 < k + 2 ∧ f (k + 1) < mnR (k + 2) f (k + 1)) then mxI 16 (f (k + 1)) else mnR (k + 2) f (k + 1)) = _
    rw [if_neg (by omega), h1]
    congr 1
  · obtain rfl : n = 1 := by omega
    exact mnR_in 1 f 0 (by omega)
theorem mfR_eq (g : Nat → Int) (n : Nat) (hn : 0 < n) : mfR g n = mfP g n := by
  obtain ⟨k, rfl⟩ : ∃ k, n = k + 1 := ⟨n - 1, by omega⟩
  rfl
end Go.Proofs.Ytikgpohoggpldaa
