/-
  coded.Len: how many bytes a number's code has.
-/
import Derived.Test.YtgohfbfdhdepnaaDoorRows
import Derived.Test.YtgohfbfdhdepnaaDoorL
import Derived.WalkSpells
import Derived.Deep.QuietTactic
import Derived.BigQuiet
import Derived.Deep.RegionHeld3
import Derived.Deep.DeepCutAuto
import Derived.OwnWalk
import Derived.KernelRfl
import Derived.StillTailTactics
namespace Go.Proofs.YtgohfbfdhdepnaaDoor.C3
open Go.RowKit

def limL : List Int := [0, 128, 2048, 65536, 2097152, 67108864, 2147483648, 68719476736]
/-- The table of limits lies in the world. -/
def TabAt (w : World) : Prop := ∀ i, i < 8 → w.cell? ⟨3, i, none⟩ = some (.int .i64 (limL.getD i 0))
theorem TabAt.below {w w' : World} (h : TabAt w) (hb : Below w.heap.size w w') : TabAt w' := fun i hi => (hb.cell (p := ⟨3, i, none⟩) (cell_lt (h i hi))).trans (h i hi)

def szN (n : Nat) : Nat := if n < 128 then 1 else if n < 2048 then 2 else if n < 65536 then 3 else if n < 2097152 then 4 else if n < 67108864 then 5 else if n < 2147483648 then 6 else 7
theorem szN_pos (n : Nat) : 1 ≤ szN n ∧ szN n ≤ 7 := by unfold szN; (repeat' split) <;> omega
theorem lim_iff (n : Nat) (hn : n < 68719476736) (k : Nat) (h1 : 1 ≤ k) (h7 : k ≤ 7) : ((limL.getD k 0) ≤ (n : Int)) ↔ k < szN n := by
  have hk : k = 1 ∨ k = 2 ∨ k = 3 ∨ k = 4 ∨ k = 5 ∨ k = 6 ∨ k = 7 := by omega
  unfold szN
  rcases hk with rfl | rfl | rfl | rfl | rfl | rfl | rfl <;> simp only [limL, List.getD_cons_succ, List.getD_cons_zero] <;> (repeat' split) <;> omega

set_option maxHeartbeats 400000 in
theorem len_ok (n : Nat) (hn : n < 68719476736) (w : World) (ht : TabAt w) :
    Calls Tryd.prog 52 #[.int .i64 n] w fun e w' => e = .returned (.tuple #[.int .i64 (szN n : Nat), .int .i64 0]) ∧ w' = w := by
  have Ht := Lib.hid ht; clear ht
  go_enter Tryd.func52, Tryd.ntmps52
  go_wp2_with fail
  go_loop [4] (fun i => ∃ k : Nat, 1 ≤ k ∧ k ≤ szN n ∧ i = .int .i64 k) (fun i => 8 - (intOf i).toNat)
  case atStart => exact ⟨1, by omega, (szN_pos n).1, rfl⟩
  case round =>
    obtain ⟨k, h1, hk, rfl⟩ := hrel
    have h7 := (szN_pos n).2
    have hcell := Ht.out k (by omega)
    have hiff := lim_iff n hn k h1 (by omega)
    generalize limL.getD k 0 = z at *
    by_cases hkk : k < szN n
    · have hz : z ≤ (n : Int) := hiff.2 hkk
      clear hiff
      go_wp2_with fail
      go_round
      case rel => exact ⟨k + 1, by omega, by omega, by go_num⟩
      case measure => simp [intOf]; omega
    · have hz : ¬ z ≤ (n : Int) := fun h => hkk (hiff.1 h)
      obtain rfl : k = szN n := by omega
      clear hiff
      go_wp2_with fail
      go_ret2
      exact ⟨rfl, rfl⟩
theorem len_no (n : Int) (hn : n < 0 ∨ 68719476735 < n) (w : World) :
    Calls Tryd.prog 52 #[.int .i64 n] w fun e w' => e = .returned (.tuple #[.int .i64 0, .int .i64 10]) ∧ w' = w := by
  by_cases h1 : n < 0
  · go_enter Tryd.func52, Tryd.ntmps52
    go_wp2_with fail
    go_ret2
    exact ⟨rfl, rfl⟩
  · have h2 : 68719476735 < n := by omega
    go_enter Tryd.func52, Tryd.ntmps52
    go_wp2_with fail
    go_ret2
    exact ⟨rfl, rfl⟩

/-- A number's part, i bytes on. -/
def partN (n k i : Nat) : Nat := n / 2 ^ (6 * (k - 1 - i))
set_option maxHeartbeats 400000 in
theorem rest_still (n k i : Nat) (hi : i < k) (hk : k ≤ 7) (g1 g2 : Nat) (w : World) (h1 : w.cell? ⟨g1, 0, none⟩ = some (.int .i64 n)) (h2 : w.cell? ⟨g2, 0, none⟩ = some (.int .i64 k)) :
    Calls Tryd.prog 53 #[.int .i64 i, .pointer (some ⟨g1, 0, none⟩), .pointer (some ⟨g2, 0, none⟩)] w fun e w' => e = .returned (.int .i64 (partN n k i : Nat)) ∧ w' = w := by
  have e1 : (6 * (k - 1 - i : Int)) = ((6 * (k - 1 - i) : Nat) : Int) := by omega
  have hd : Hid (partN n k i = n / 2 ^ (6 * (k - 1 - i))) := rfl
  go_enter Tryd.func53, Tryd.ntmps53
  go_wp2_with fail
  go_ret
  exact ⟨rfl, rfl⟩

theorem or_add (a i p : Nat) (h : p < 2 ^ i) : (a * 2 ^ i) ||| p = a * 2 ^ i + p := by rw [← Nat.shiftLeft_eq, Nat.shiftLeft_add_eq_or_of_lt h]
/-- A code's first byte, and the one i behind it. -/
def firstV (n k : Nat) : Nat := 256 - 2 ^ (8 - k) + partN n k 0
def restV (n k i : Nat) : Nat := 128 + partN n k i % 64
def codeN (n : Nat) : List Nat := if szN n = 1 then [n] else firstV n (szN n) :: (List.range (szN n - 1)).map fun j => restV n (szN n) (j + 1)
theorem codeN_length (n : Nat) : (codeN n).length = szN n := by
  have := (szN_pos n).1
  unfold codeN; split
  · simp; omega
  · simp; omega
def nv8 (l : List Nat) : List Value := l.map fun (x : Nat) => Value.int .u8 (x : Int)
theorem nv8_append (l m : List Nat) : nv8 (l ++ m) = nv8 l ++ nv8 m := by simp [nv8]
theorem codeN_at (n i : Nat) (h0 : 0 < i) (hi : i < szN n) : (codeN n)[i]? = some (restV n (szN n) i) := by
  unfold codeN
  rw [if_neg (by omega)]
  obtain ⟨j, rfl⟩ : ∃ j, i = j + 1 := ⟨i - 1, by omega⟩
  rw [List.getElem?_cons_succ, List.getElem?_map, List.getElem?_range (by omega)]
  rfl
theorem part_lt (n : Nat) (hn : n < 68719476736) (h : szN n ≠ 1) : partN n (szN n) 0 < 2 ^ (7 - szN n) := by
  unfold partN
  rw [Nat.div_lt_iff_lt_mul (Nat.two_pow_pos _), ← Nat.pow_add]
  have hs := szN_pos n
  unfold szN at h hs ⊢
  (repeat' split) <;> first | (simp at h; done) | skip
  all_goals simp_all
  all_goals omega
theorem u8_wrap (x : Nat) : IntKind.u8.wrap (x : Int) = ((x % 256 : Nat) : Int) := by
  rw [IntKind.wrap_u8]; omega
theorem first_eq (n : Nat) (hn : n < 68719476736) (h : szN n ≠ 1) : ((65280 / 2 ^ szN n) ||| partN n (szN n) 0) % 256 = firstV n (szN n) ∧ firstV n (szN n) < 256 := by
  have hp := part_lt n hn h
  have hs := szN_pos n
  unfold firstV
  generalize partN n (szN n) 0 = p at *
  generalize szN n = k at *
  have hk : k = 2 ∨ k = 3 ∨ k = 4 ∨ k = 5 ∨ k = 6 ∨ k = 7 := by omega
  rcases hk with rfl | rfl | rfl | rfl | rfl | rfl
  · rw [show 65280 / 2 ^ 2 = 255 * 2 ^ 6 from rfl, or_add 255 6 p (by omega)]; omega
  · rw [show 65280 / 2 ^ 3 = 255 * 2 ^ 5 from rfl, or_add 255 5 p (by omega)]; omega
  · rw [show 65280 / 2 ^ 4 = 255 * 2 ^ 4 from rfl, or_add 255 4 p (by omega)]; omega
  · rw [show 65280 / 2 ^ 5 = 255 * 2 ^ 3 from rfl, or_add 255 3 p (by omega)]; omega
  · rw [show 65280 / 2 ^ 6 = 255 * 2 ^ 2 from rfl, or_add 255 2 p (by omega)]; omega
  · rw [show 65280 / 2 ^ 7 = 255 * 2 ^ 1 from rfl, or_add 255 1 p (by omega)]; omega
theorem rest_eq (p : Nat) : (128 ||| (p &&& 63)) % 256 = 128 + p % 64 := by
  rw [show p &&& 63 = p % 64 from Nat.and_two_pow_sub_one_eq_mod p 6]
  rw [show 128 = 1 * 2 ^ 7 from rfl, or_add 1 7 (p % 64) (by omega)]
  omega
end Go.Proofs.YtgohfbfdhdepnaaDoor.C3
