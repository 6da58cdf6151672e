/-
  coded.Len: how many bytes a number's code has.
  header: the small functions, each one's contract.
  header: blockFits, rateFits.
  A region that draws its order, all of whose operations only make memory (none writes to what was there): one proof for each operation, whatever the order.
-/
import Derived.Test.YtgohfbfdhdepnaaDoorRows
import Derived.Test.YtgohfbfdhdepnaaDoorHb1
import Derived.WalkSpells
import Derived.Deep.QuietTactic
import Derived.BigQuiet
import Derived.Deep.RegionHeld3
import Derived.Deep.DeepCutAuto
import Derived.OwnWalk
import Derived.KernelRfl
import Derived.StillTailTactics
import Derived.Test.YtgohfbfdhdepnaaDoorHb2
import Derived.Orders
set_option linter.unusedSimpArgs false
set_option linter.unusedVariables false
namespace Go.Proofs.YtgohfbfdhdepnaaDoor.C3
open Go.RowKit

def limL : List Int := [0, 128, 2048, 65536, 2097152, 67108864, 2147483648, 68719476736]
/-- The table of limits lies in the world. -/
def TabAt (w : World) : Prop := ∀ i, i < 8 → w.cell? ⟨3, i, none⟩ = some (.int .i64 (limL.getD i 0))
theorem TabAt.below {w w' : World} (h : TabAt w) (hb : Below w.heap.size w w') : TabAt w' := fun i hi => (hb.cell (p := ⟨3, i, none⟩) (cell_lt (h i hi))).trans (h i hi)

def szN (n : Nat) : Nat := if n < 128 then 1 else if n < 2048 then 2 else if n < 65536 then 3 else if n < 2097152 then 4 else if n < 67108864 then 5 else if n < 2147483648 then 6 else 7
theorem szN_pos (n : Nat) : 1 ≤ szN n ∧ szN n ≤ 7 := by unfold szN; (repeat' split) <;> omega
theorem lim_iff (n : Nat) (hn : n < 68719476736) (k : Nat) (h1 : 1 ≤ k) (h7 : k ≤ 7) : ((limL.getD k 0) ≤ (n : Int)) ↔ k < szN n := by
  have hk : k = 1 ∨ k = 2 ∨ k = 3 ∨ k = 4 ∨ k = 5 ∨ k = 6 ∨ k = 7 := by omega
  unfold szN
  rcases hk with rfl | rfl | rfl | rfl | rfl | rfl | rfl <;> simp only [limL, List.getD_cons_succ, List.getD_cons_zero] <;> (repeat' split) <;> omega

set_option maxHeartbeats 400000 in
theorem len_ok (n : Nat) (hn : n < 68719476736) (w : World) (ht : TabAt w) :
    Calls Tryd.prog 52 #[.int .i64 n] w fun e w' => e = .returned (.tuple #[.int .i64 (szN n : Nat), .int .i64 0]) ∧ w' = w := by
  have Ht := Lib.hid ht; clear ht
  go_enter Tryd.func52, Tryd.ntmps52
  go_wp2_with fail
  go_loop [4] (fun i => ∃ k : Nat, 1 ≤ k ∧ k ≤ szN n ∧ i = .int .i64 k) (fun i => 8 - (intOf i).toNat)
  case atStart => exact ⟨1, by omega, (szN_pos n).1, rfl⟩
  case round =>
    obtain ⟨k, h1, hk, rfl⟩ := hrel
    have h7 := (szN_pos n).2
    have hcell := Ht.out k (by omega)
    have hiff := lim_iff n hn k h1 (by omega)
    generalize limL.getD k 0 = z at *
    by_cases hkk : k < szN n
    · have hz : z ≤ (n : Int) := hiff.2 hkk
      clear hiff
      go_wp2_with fail
      go_round
      case rel => exact ⟨k + 1, by omega, by omega, by go_num⟩
      case measure => simp [intOf]; omega
    · have hz : ¬ z ≤ (n : Int) := fun h => hkk (hiff.1 h)
      obtain rfl : k = szN n := by omega
      clear hiff
      go_wp2_with fail
      go_ret2
      exact ⟨rfl, rfl⟩
theorem len_no (n : Int) (hn : n < 0 ∨ 68719476735 < n) (w : World) :
    Calls Tryd.prog 52 #[.int .i64 n] w fun e w' => e = .returned (.tuple #[.int .i64 0, .int .i64 10]) ∧ w' = w := by
  by_cases h1 : n < 0
  · go_enter Tryd.func52, Tryd.ntmps52
    go_wp2_with fail
    go_ret2
    exact ⟨rfl, rfl⟩
  · have h2 : 68719476735 < n := by omega
    go_enter Tryd.func52, Tryd.ntmps52
    go_wp2_with fail
    go_ret2
    exact ⟨rfl, rfl⟩

/-- A number's part, i bytes on. -/
def partN (n k i : Nat) : Nat := n / 2 ^ (6 * (k - 1 - i))
set_option maxHeartbeats 400000 in
theorem rest_still (n k i : Nat) (hi : i < k) (hk : k ≤ 7) (g1 g2 : Nat) (w : World) (h1 : w.cell? ⟨g1, 0, none⟩ = some (.int .i64 n)) (h2 : w.cell? ⟨g2, 0, none⟩ = some (.int .i64 k)) :
    Calls Tryd.prog 53 #[.int .i64 i, .pointer (some ⟨g1, 0, none⟩), .pointer (some ⟨g2, 0, none⟩)] w fun e w' => e = .returned (.int .i64 (partN n k i : Nat)) ∧ w' = w := by
  have e1 : (6 * (k - 1 - i : Int)) = ((6 * (k - 1 - i) : Nat) : Int) := by omega
  have hd : Hid (partN n k i = n / 2 ^ (6 * (k - 1 - i))) := rfl
  go_enter Tryd.func53, Tryd.ntmps53
  go_wp2_with fail
  go_ret
  exact ⟨rfl, rfl⟩

theorem or_add (a i p : Nat) (h : p < 2 ^ i) : (a * 2 ^ i) ||| p = a * 2 ^ i + p := by rw [← Nat.shiftLeft_eq, Nat.shiftLeft_add_eq_or_of_lt h]
/-- A code's first byte, and the one i behind it. -/
def firstV (n k : Nat) : Nat := 256 - 2 ^ (8 - k) + partN n k 0
def restV (n k i : Nat) : Nat := 128 + partN n k i % 64
def codeN (n : Nat) : List Nat := if szN n = 1 then [n] else firstV n (szN n) :: (List.range (szN n - 1)).map fun j => restV n (szN n) (j + 1)
theorem codeN_length (n : Nat) : (codeN n).length = szN n := by
  have := (szN_pos n).1
  unfold codeN; split
  · simp; omega
  · simp; omega
def nv8 (l : List Nat) : List Value := l.map fun (x : Nat) => Value.int .u8 (x : Int)
theorem nv8_append (l m : List Nat) : nv8 (l ++ m) = nv8 l ++ nv8 m := by simp [nv8]
theorem codeN_at (n i : Nat) (h0 : 0 < i) (hi : i < szN n) : (codeN n)[i]? = some (restV n (szN n) i) := by
  unfold codeN
  rw [if_neg (by omega)]
  obtain ⟨j, rfl⟩ : ∃ j, i = j + 1 := ⟨i - 1, by omega⟩
  rw [List.getElem?_cons_succ, List.getElem?_map, List.getElem?_range (by omega)]
  rfl
theorem part_lt (n : Nat) (hn : n < 68719476736) (h : szN n ≠ 1) : partN n (szN n) 0 < 2 ^ (7 - szN n) := by
  unfold partN
  rw [Nat.div_lt_iff_lt_mul (Nat.two_pow_pos _), ← Nat.pow_add]
  have hs := szN_pos n
  unfold szN at h hs ⊢
  (repeat' split) <;> first | (simp at h; done) | skip
  all_goals simp_all
  all_goals omega
theorem u8_wrap (x : Nat) : IntKind.u8.wrap (x : Int) = ((x % 256 : Nat) : Int) := by
  rw [IntKind.wrap_u8]; omega
theorem first_eq (n : Nat) (hn : n < 68719476736) (h : szN n ≠ 1) : ((65280 / 2 ^ szN n) ||| partN n (szN n) 0) % 256 = firstV n (szN n) ∧ firstV n (szN n) < 256 := by
  have hp := part_lt n hn h
  have hs := szN_pos n
  unfold firstV
  generalize partN n (szN n) 0 = p at *
  generalize szN n = k at *
  have hk : k = 2 ∨ k = 3 ∨ k = 4 ∨ k = 5 ∨ k = 6 ∨ k = 7 := by omega
  rcases hk with rfl | rfl | rfl | rfl | rfl | rfl
  · rw [show 65280 / 2 ^ 2 = 255 * 2 ^ 6 from rfl, or_add 255 6 p (by omega)]; omega
  · rw [show 65280 / 2 ^ 3 = 255 * 2 ^ 5 from rfl, or_add 255 5 p (by omega)]; omega
  · rw [show 65280 / 2 ^ 4 = 255 * 2 ^ 4 from rfl, or_add 255 4 p (by omega)]; omega
  · rw [show 65280 / 2 ^ 5 = 255 * 2 ^ 3 from rfl, or_add 255 3 p (by omega)]; omega
  · rw [show 65280 / 2 ^ 6 = 255 * 2 ^ 2 from rfl, or_add 255 2 p (by omega)]; omega
  · rw [show 65280 / 2 ^ 7 = 255 * 2 ^ 1 from rfl, or_add 255 1 p (by omega)]; omega
theorem rest_eq (p : Nat) : (128 ||| (p &&& 63)) % 256 = 128 + p % 64 := by
  rw [show p &&& 63 = p % 64 from Nat.and_two_pow_sub_one_eq_mod p 6]
  rw [show 128 = 1 * 2 ^ 7 from rfl, or_add 1 7 (p % 64) (by omega)]
  omega
end Go.Proofs.YtgohfbfdhdepnaaDoor.C3

namespace Go.Proofs.YtgohfbfdhdepnaaDoor
open Go.RowKit

/-- A header. -/
structure Hd where
  V : Bool
  bc : Int
  rc : Int
  m : Int
  dc : Int
  n : Int
  b : Int
  r : Int
  d : Int
def Hd.val (h : Hd) : Value := .agg #[.bool h.V, .int .i64 h.bc, .int .i64 h.rc, .int .i64 h.m, .int .i64 h.dc, .int .i64 h.n, .int .i64 h.b, .int .i64 h.r, .int .i64 h.d]
def Hd.zero : Hd := ⟨false, 0, 0, 0, 0, 0, 0, 0, 0⟩
def Hd.cells (h : Hd) : Array Value := #[.bool h.V, .int .i64 h.bc, .int .i64 h.rc, .int .i64 h.m, .int .i64 h.dc, .int .i64 h.n, .int .i64 h.b, .int .i64 h.r, .int .i64 h.d]

def blkL : List Int := [-1, 192, 576, 1152, 2304, 4608, -2, -2, 256, 512, 1024, 2048, 4096, 8192, 16384, 32768]
def ratL : List Int := [0, 88200, 176400, 192000, 8000, 16000, 22050, 24000, 32000, 44100, 48000, 96000, -2, -2, -2, -1]
def depL : List Int := [0, 8, 12, -1, 16, 20, 24, 32]
/-- The tables lie in the world. -/
structure HTabs (w : World) : Prop where
  blk : ∀ i, i < 16 → w.cell? ⟨0, i, none⟩ = some (.int .i64 (blkL.getD i 0))
  rat : ∀ i, i < 16 → w.cell? ⟨1, i, none⟩ = some (.int .i64 (ratL.getD i 0))
  dep : ∀ i, i < 8 → w.cell? ⟨2, i, none⟩ = some (.int .i64 (depL.getD i 0))
  lim : C3.TabAt w
theorem HTabs.below {w w' : World} (h : HTabs w) (hb : Below w.heap.size w w') : HTabs w' :=
  ⟨fun i hi => (hb.cell (p := ⟨0, i, none⟩) (cell_lt (h.blk i hi))).trans (h.blk i hi), fun i hi => (hb.cell (p := ⟨1, i, none⟩) (cell_lt (h.rat i hi))).trans (h.rat i hi), fun i hi => (hb.cell (p := ⟨2, i, none⟩) (cell_lt (h.dep i hi))).trans (h.dep i hi), h.lim.below hb⟩
theorem rd_tab {w : World} {g : Nat} (L : List Int) (h : ∀ i, i < L.length → w.cell? ⟨g, i, none⟩ = some (.int .i64 (L.getD i 0))) : Rd w (some ⟨g, 0, none⟩) (zv L) := by
  intro j u hu
  have hj : j < L.length := by
    have := (List.getElem?_eq_some_iff.1 hu).1
    rwa [zv_length] at this
  rw [zv_get L j hj] at hu
  refine ⟨g, 0, rfl, ?_⟩
  rw [Nat.zero_add, h j hj, ← hu, List.getD_eq_getElem?_getD, List.getElem?_eq_getElem hj]
  rfl

/-- What a code of a table tells. -/
def ofT (L : List Int) (c : Int) : Int := if c < 0 ∨ (L.length : Int) ≤ c then -1 else L.getD c.toNat 0
theorem of_any (L : List Int) (A : Option Addr) (k : Nat) (c : Int) (w : World) (hr : Rd w A (zv L)) :
    Calls Tryd.prog 58 #[.slice A L.length k, .int .i64 c] w fun e w' => e = .returned (.int .i64 (ofT L c)) ∧ w' = w := by
  by_cases h1 : c < 0
  · have e : ofT L c = -1 := if_pos (.inl h1)
    rw [e]
    clear e
    go_enter Tryd.func58, Tryd.ntmps58
    go_wp2_with fail
    go_ret
    exact ⟨rfl, rfl⟩
  by_cases h2 : (L.length : Int) ≤ c
  · have e : ofT L c = -1 := if_pos (.inr h2)
    rw [e]
    clear e
    have h3 : c ≥ (L.length : Int) := h2
    go_enter Tryd.func58, Tryd.ntmps58
    go_wp2_with fail
    go_ret
    exact ⟨rfl, rfl⟩
  obtain ⟨i, rfl⟩ : ∃ i : Nat, c = i := ⟨c.toNat, by omega⟩
  have hi : i < L.length := by omega
  have e : ofT L i = L.getD i 0 := by rw [ofT, if_neg (by omega), Int.toNat_natCast]
  obtain ⟨b, o, rfl, hc⟩ := hr i _ (zv_get L i hi)
  have e2 : L[i] = L.getD i 0 := by rw [List.getD_eq_getElem?_getD, List.getElem?_eq_getElem hi]; rfl
  rw [e2] at hc
  rw [e]
  generalize L.getD i 0 = z at *
  clear e e2 hr
  have h3 : ¬ ((i : Int) ≥ (L.length : Int)) := h2
  go_enter Tryd.func58, Tryd.ntmps58
  go_wp2_with fail
  go_ret
  exact ⟨rfl, rfl⟩

/-- The first error. -/
def fstE : List Int → Int
  | [] => 0
  | x :: l => if x = 0 then fstE l else x
set_option maxHeartbeats 800000 in
theorem first_any (l : List Int) (A : Option Addr) (c : Nat) (w : World) (hr : Rd w A (zv l)) (hl : l.length ≤ 100) :
    Calls Tryd.prog 33 #[.slice A l.length c] w fun e w' => e = .returned (.int .i64 (fstE l)) ∧ w' = w := by
  have Hr := Lib.hid hr
  clear hr
  go_enter Tryd.func33, Tryd.ntmps33
  go_wp2_with fail
  go_step3
  go_wp2_with fail
  go_step3
  go_wp2_with fail
  go_loop [3, 5, 8] (fun o u i => ∃ k : Nat, k ≤ l.length ∧ i = .int .i64 k ∧ o = .int .i64 0 ∧ Hid (fstE (l.drop k) = fstE l)) (fun _ _ i => l.length - (intOf i).toNat)
  case atStart => exact ⟨0, by omega, rfl, rfl, by rw [List.drop_zero]; rfl⟩
  case round =>
    obtain ⟨k, hk, rfl, rfl, Hf⟩ := hrel
    by_cases hkk : k < l.length
    · obtain ⟨b, o, rfl, hc⟩ := Hr.out k _ (zv_get l k hkk)
      have hd : Hid (fstE (l.drop k) = if l[k] = 0 then fstE (l.drop (k + 1)) else l[k]) := by
        show _ = _
        rw [List.drop_eq_getElem_cons hkk]; rfl
      generalize l[k] = x at *
      by_cases hx : x = 0
      · subst hx
        have Hf2 : Hid (fstE (l.drop (k + 1)) = fstE l) := by show _ = _; rw [← Hf.out, hd.out, if_pos rfl]
        clear hd Hf
        go_wp2_with fail
        go_round
        case rel => exact ⟨k + 1, by omega, by go_num, rfl, Hf2⟩
        case measure => simp [intOf] <;> omega
      · have hx' : (x != 0) = true := by rw [bne_iff_ne]; exact hx
        have Hf2 : Hid (fstE l = x) := by show _ = _; rw [← Hf.out, hd.out, if_neg hx]
        clear hd Hf
        go_wp2_with fail
        try rw [Exit.noGoto_ret]
        go_ret
        exact ⟨by rw [Hf2.out]; rfl, rfl⟩
    · obtain rfl : k = l.length := by omega
      have Hf2 : Hid (fstE l = 0) := by show _ = _; rw [← Hf.out, List.drop_length]; rfl
      clear Hf
      go_wp2_with fail
      try rw [Exit.noGoto_ret]
      go_ret
      exact ⟨by rw [Hf2.out]; rfl, rfl⟩

theorem wrong_any (b : Bool) (x : Int) (w : World) :
    Calls Tryd.prog 34 #[.bool b, .int .i64 x] w fun e w' => e = .returned (.int .i64 (if b then x else 0)) ∧ w' = w := by
  cases b
  · go_enter Tryd.func34, Tryd.ntmps34
    go_wp2_with fail
    go_ret
    exact ⟨rfl, rfl⟩
  · go_enter Tryd.func34, Tryd.ntmps34
    go_wp2_with fail
    go_ret
    exact ⟨rfl, rfl⟩
def mostV (b : Bool) : Int := if b then 68719476736 else 2147483648
theorem most_any (b : Bool) (w : World) :
    Calls Tryd.prog 35 #[.bool b] w fun e w' => e = .returned (.int .i64 (mostV b)) ∧ w' = w := by
  cases b
  · go_enter Tryd.func35, Tryd.ntmps35
    go_wp2_with fail
    go_ret
    exact ⟨rfl, rfl⟩
  · go_enter Tryd.func35, Tryd.ntmps35
    go_wp2_with fail
    go_ret
    exact ⟨rfl, rfl⟩
def bitV (b : Bool) : Nat := if b then 1 else 0
theorem bit_any (b : Bool) (w : World) :
    Calls Tryd.prog 26 #[.bool b] w fun e w' => e = .returned (.int .i64 (bitV b : Nat)) ∧ w' = w := by
  cases b
  · go_enter Tryd.func26, Tryd.ntmps26
    go_wp2_with fail
    go_ret
    exact ⟨rfl, rfl⟩
  · go_enter Tryd.func26, Tryd.ntmps26
    go_wp2_with fail
    go_ret
    exact ⟨rfl, rfl⟩
def unU (c : Int) : Int := if c = 12 then 1000 else if c = 14 then 10 else 1
def unN (c : Int) : Nat := if c = 12 then 8 else 16
theorem unit_any (c : Int) (w : World) :
    Calls Tryd.prog 29 #[.int .i64 c] w fun e w' => e = .returned (.tuple #[.int .i64 (unU c), .int .i64 (unN c : Nat)]) ∧ w' = w := by
  by_cases h1 : c = 12
  · subst h1
    go_enter Tryd.func29, Tryd.ntmps29
    go_wp2_with fail
    try rw [Exit.noGoto_ret]
    go_ret2
    exact ⟨rfl, rfl⟩
  have e1 : (c == 12) = false := by rw [beq_eq_false_iff_ne]; exact h1
  by_cases h2 : c = 14
  · subst h2
    go_enter Tryd.func29, Tryd.ntmps29
    go_wp2_with fail
    try rw [Exit.noGoto_ret]
    go_ret2
    exact ⟨rfl, rfl⟩
  have e2 : (c == 14) = false := by rw [beq_eq_false_iff_ne]; exact h2
  have e3 : unU c = 1 := by rw [unU, if_neg h1, if_neg h2]
  have e4 : unN c = 16 := by rw [unN, if_neg h1]
  rw [e3, e4]
  clear e3 e4
  go_enter Tryd.func29, Tryd.ntmps29
  go_wp2_with fail
  try rw [Exit.noGoto_ret]
  go_ret2
  exact ⟨rfl, rfl⟩
def chE (m : Int) : Int := if m < 0 ∨ 10 < m then 13 else 0
def chN (m : Int) : Int := if m < 0 ∨ 10 < m then 0 else if m < 8 then m + 1 else 2
theorem Channels_any (m : Int) (w : World) :
    Calls Tryd.prog 17 #[.int .i64 m] w fun e w' => e = .returned (.tuple #[.int .i64 (chN m), .int .i64 (chE m)]) ∧ w' = w := by
  by_cases h1 : m < 0
  · have e1 : chN m = 0 := if_pos (.inl h1)
    have e2 : chE m = 13 := if_pos (.inl h1)
    rw [e1, e2]
    clear e1 e2
    go_enter Tryd.func17, Tryd.ntmps17
    go_wp2_with fail
    try rw [Exit.noGoto_ret]
    go_ret2
    exact ⟨rfl, rfl⟩
  by_cases h2 : m > 10
  · have e1 : chN m = 0 := if_pos (.inr h2)
    have e2 : chE m = 13 := if_pos (.inr h2)
    rw [e1, e2]
    clear e1 e2
    go_enter Tryd.func17, Tryd.ntmps17
    go_wp2_with fail
    try rw [Exit.noGoto_ret]
    go_ret2
    exact ⟨rfl, rfl⟩
  have h12 : ¬ (m < 0 ∨ 10 < m) := by omega
  by_cases h3 : m < 8
  · have e1 : chN m = m + 1 := by rw [chN, if_neg h12, if_pos h3]
    have e2 : chE m = 0 := by rw [chE, if_neg h12]
    rw [e1, e2]
    clear e1 e2 h12
    go_enter Tryd.func17, Tryd.ntmps17
    go_wp2_with fail
    try rw [Exit.noGoto_ret]
    go_ret2
    exact ⟨rfl, rfl⟩
  have e1 : chN m = 2 := by rw [chN, if_neg h12, if_neg h3]
  have e2 : chE m = 0 := by rw [chE, if_neg h12]
  rw [e1, e2]
  clear e1 e2 h12
  go_enter Tryd.func17, Tryd.ntmps17
  go_wp2_with fail
  try rw [Exit.noGoto_ret]
  go_ret2
  exact ⟨rfl, rfl⟩

/-- Where a number stands in a list; -1: nowhere. -/
def idxL (L : List Int) (x : Int) : Int := match L.findIdx? (· == x) with | some i => (i : Int) | none => -1
set_option maxHeartbeats 800000 in
theorem Index_any (L : List Int) (A : Option Addr) (c : Nat) (x : Int) (w : World) (hr : Rd w A (zv L)) (hl : L.length ≤ 100) :
    Calls Tryd.prog 43 #[.slice A L.length c, .int .i64 x] w fun e w' => e = .returned (.int .i64 (idxL L x)) ∧ w' = w := by
  have Hr := Lib.hid hr
  clear hr
  go_enter Tryd.func43, Tryd.ntmps43
  go_wp2_with fail
  go_loop [5, 8] (fun u i => ∃ k : Nat, k ≤ L.length ∧ i = .int .i64 k ∧ Hid (∀ j (h : j < L.length), j < k → L[j] ≠ x)) (fun _ i => L.length - (intOf i).toNat)
  case atStart => exact ⟨0, by omega, rfl, fun j _ h => by omega⟩
  case round =>
    obtain ⟨k, hk, rfl, Hf⟩ := hrel
    by_cases hkk : k < L.length
    · obtain ⟨b, o, rfl, hc⟩ := Hr.out k _ (zv_get L k hkk)
      by_cases hx : x = L[k]
      · have Hf2 : Hid (idxL L x = (k : Int)) := by
          have : L.findIdx? (· == x) = some k := by
            rw [List.findIdx?_eq_some_iff_getElem]
            exact ⟨hkk, by simp [hx], fun j hj => by simpa using Hf.out j (by omega) hj⟩
          show _ = _
          unfold idxL; rw [this]
        clear Hf
        generalize L[k] = y at *
        subst hx
        go_wp2_with fail
        go_ret
        exact ⟨by rw [Hf2.out]; rfl, rfl⟩
      · have hx' : (x == L[k]) = false := by rw [beq_eq_false_iff_ne]; exact hx
        have Hf2 : Hid (∀ j (h : j < L.length), j < k + 1 → L[j] ≠ x) := by
          intro j h hj
          rcases Nat.lt_or_ge j k with h2 | h2
          · exact Hf.out j h h2
          · obtain rfl : j = k := by omega
            exact fun e => hx e.symm
        clear Hf
        generalize L[k] = y at *
        go_wp2_with fail
        go_round
        case rel => exact ⟨k + 1, by omega, by go_num, Hf2⟩
        case measure => simp [intOf] <;> omega
    · obtain rfl : k = L.length := by omega
      have Hf2 : Hid (idxL L x = -1) := by
        have : L.findIdx? (· == x) = none := by
          rw [List.findIdx?_eq_none_iff]
          intro y hy
          obtain ⟨j, hj, rfl⟩ := List.mem_iff_getElem.1 hy
          simpa using Hf.out j hj hj
        show _ = _
        unfold idxL; rw [this]
      clear Hf
      go_wp2_with fail
      go_ret
      exact ⟨by rw [Hf2.out]; rfl, rfl⟩
end Go.Proofs.YtgohfbfdhdepnaaDoor

namespace Go.Proofs.YtgohfbfdhdepnaaDoor
open Go.RowKit

def bFits (bc b : Int) : Bool := if bc = 6 then decide (1 ≤ b ∧ b ≤ 256) else if bc = 7 then decide (1 ≤ b ∧ b ≤ 65535) else decide (b = blkL.getD bc.toNat 0)
set_option maxHeartbeats 800000 in
theorem blockFits_any (h : Hd) (h0 : 0 ≤ h.bc) (h15 : h.bc < 16) (w : World) (ht : HTabs w) :
    Calls Tryd.prog 36 #[h.val] w fun e w' => e = .returned (.bool (bFits h.bc h.b)) ∧ Below w.heap.size w w' := by
  obtain ⟨V, bc, rc, m, dc, n, b, r, d⟩ := h
  simp only at h0 h15 ⊢
  simp only [Hd.val]
  have Ht := Lib.hid ht
  clear ht
  by_cases h6 : bc = 6
  · subst h6
    have e : bFits 6 b = decide (1 ≤ b ∧ b ≤ 256) := if_pos rfl
    rw [e]
    clear e
    by_cases hb : 1 ≤ b
    · have hd : decide (b ≥ 1) = true := decide_eq_true hb
      by_cases hb2 : b ≤ 256
      · have e : decide (1 ≤ b ∧ b ≤ 256) = true := decide_eq_true ⟨hb, hb2⟩
        rw [e]
        clear e
        go_enter Tryd.func36, Tryd.ntmps36
        go_wp2_with fail
        try rw [Exit.noGoto_ret]
        go_ret
        exact ⟨rfl, by repeat (first | exact Below.refl _ _ | assumption | refine below_drewN ?_ _ | refine Below.drew ?_ | refine Below.alloc ?_ (Nat.le_refl _) _ | refine bal ?_ _ | refine bnext ?_ (by assumption))⟩
      · have e : decide (1 ≤ b ∧ b ≤ 256) = false := decide_eq_false (fun h => hb2 h.2)
        rw [e]
        clear e
        go_enter Tryd.func36, Tryd.ntmps36
        go_wp2_with fail
        try rw [Exit.noGoto_ret]
        go_ret
        exact ⟨rfl, by repeat (first | exact Below.refl _ _ | assumption | refine below_drewN ?_ _ | refine Below.drew ?_ | refine Below.alloc ?_ (Nat.le_refl _) _ | refine bal ?_ _ | refine bnext ?_ (by assumption))⟩
    · have hd : decide (b ≥ 1) = false := decide_eq_false hb
      have e : decide (1 ≤ b ∧ b ≤ 256) = false := decide_eq_false (fun h => hb h.1)
      rw [e]
      clear e
      go_enter Tryd.func36, Tryd.ntmps36
      go_wp2_with fail
      try rw [Exit.noGoto_ret]
      go_ret
      exact ⟨rfl, by repeat (first | exact Below.refl _ _ | assumption | refine below_drewN ?_ _ | refine Below.drew ?_ | refine Below.alloc ?_ (Nat.le_refl _) _ | refine bal ?_ _ | refine bnext ?_ (by assumption))⟩
  have e6 : (bc == 6) = false := by rw [beq_eq_false_iff_ne]; exact h6
  by_cases h7 : bc = 7
  · subst h7
    have e : bFits 7 b = decide (1 ≤ b ∧ b ≤ 65535) := rfl
    rw [e]
    clear e
    by_cases hb : 1 ≤ b
    · have hd : decide (b ≥ 1) = true := decide_eq_true hb
      by_cases hb2 : b ≤ 65535
      · have e : decide (1 ≤ b ∧ b ≤ 65535) = true := decide_eq_true ⟨hb, hb2⟩
        rw [e]
        have hd2 : decide (b ≤ 65535) = true := decide_eq_true hb2
        clear e hb2
        go_enter Tryd.func36, Tryd.ntmps36
        go_wp2_with fail
        try rw [Exit.noGoto_ret]
        go_ret
        exact ⟨rfl, by repeat (first | exact Below.refl _ _ | assumption | refine below_drewN ?_ _ | refine Below.drew ?_ | refine Below.alloc ?_ (Nat.le_refl _) _ | refine bal ?_ _ | refine bnext ?_ (by assumption))⟩
      · have e : decide (1 ≤ b ∧ b ≤ 65535) = false := decide_eq_false (fun h => hb2 h.2)
        rw [e]
        have hd2 : decide (b ≤ 65535) = false := decide_eq_false hb2
        clear e hb2
        go_enter Tryd.func36, Tryd.ntmps36
        go_wp2_with fail
        try rw [Exit.noGoto_ret]
        go_ret
        exact ⟨rfl, by repeat (first | exact Below.refl _ _ | assumption | refine below_drewN ?_ _ | refine Below.drew ?_ | refine Below.alloc ?_ (Nat.le_refl _) _ | refine bal ?_ _ | refine bnext ?_ (by assumption))⟩
    · have hd : decide (b ≥ 1) = false := decide_eq_false hb
      have e : decide (1 ≤ b ∧ b ≤ 65535) = false := decide_eq_false (fun h => hb h.1)
      rw [e]
      clear e
      go_enter Tryd.func36, Tryd.ntmps36
      go_wp2_with fail
      try rw [Exit.noGoto_ret]
      go_ret
      exact ⟨rfl, by repeat (first | exact Below.refl _ _ | assumption | refine below_drewN ?_ _ | refine Below.drew ?_ | refine Below.alloc ?_ (Nat.le_refl _) _ | refine bal ?_ _ | refine bnext ?_ (by assumption))⟩
  have e7 : (bc == 7) = false := by rw [beq_eq_false_iff_ne]; exact h7
  have e : bFits bc b = decide (b = blkL.getD bc.toNat 0) := by rw [bFits, if_neg h6, if_neg h7]
  obtain ⟨i, rfl⟩ : ∃ i : Nat, bc = i := ⟨bc.toNat, by omega⟩
  rw [Int.toNat_natCast] at e
  have hi : i < 16 := by omega
  have hc := Ht.out.blk i hi
  rw [e]
  generalize blkL.getD i 0 = z at *
  clear e h6 h7
  have hlt := cell_lt hc
  have hne : (0 : Nat) ≠ w.heap.size := by omega
  by_cases hz : b = z
  · subst hz
    rw [decide_eq_true rfl]
    go_enter Tryd.func36, Tryd.ntmps36
    go_wp2_with fail
    go_quiet (fail)
    go_wp2_with fail
    try rw [Exit.noGoto_ret]
    go_ret
    exact ⟨rfl, by repeat (first | exact Below.refl _ _ | assumption | refine below_drewN ?_ _ | refine Below.drew ?_ | refine Below.alloc ?_ (Nat.le_refl _) _ | refine bal ?_ _ | refine bnext ?_ (by assumption))⟩
  · rw [decide_eq_false hz]
    have hz' : (b == z) = false := by rw [beq_eq_false_iff_ne]; exact hz
    go_enter Tryd.func36, Tryd.ntmps36
    go_wp2_with fail
    go_quiet (fail)
    go_wp2_with fail
    try rw [Exit.noGoto_ret]
    go_ret
    exact ⟨rfl, by repeat (first | exact Below.refl _ _ | assumption | refine below_drewN ?_ _ | refine Below.drew ?_ | refine Below.alloc ?_ (Nat.le_refl _) _ | refine bal ?_ _ | refine bnext ?_ (by assumption))⟩

def rFits (rc r : Int) : Bool := if ratL.getD rc.toNat 0 = -2 then decide (0 ≤ r ∧ r % unU rc = 0 ∧ r / unU rc < 2 ^ unN rc) else decide (r = ratL.getD rc.toNat 0)
theorem rat_behind (i : Nat) (hi : i < 16) (h : ratL.getD i 0 = -2) : i = 12 ∨ i = 13 ∨ i = 14 := by
  have : ∀ i : Fin 16, ratL.getD i.val 0 = -2 → i.val = 12 ∨ i.val = 13 ∨ i.val = 14 := by decide +kernel
  exact this ⟨i, hi⟩ h

set_option maxHeartbeats 1600000 in
theorem rateFits_12 (V : Bool) (bc m dc n b r d : Int) (hr63 : r ≤ 9223372036854775807) (w : World) (ht : HTabs w) :
    Calls Tryd.prog 37 #[(Hd.mk V bc 12 m dc n b r d).val] w fun e w' => e = .returned (.bool (decide (0 ≤ r ∧ r % 1000 = 0 ∧ r / 1000 < 256))) ∧ Below w.heap.size w w' := by
  simp only [Hd.val]
  have hc : w.cell? ⟨1, 12, none⟩ = some (.int .i64 (-2)) := ht.rat 12 (by omega)
  have hlt := cell_lt hc
  have hne : (1 : Nat) ≠ w.heap.size := by omega
  have HU := Lib.hid (fun W => unit_any 12 W)
  clear ht
  by_cases h0 : 0 ≤ r
  · have g0 : decide (r ≥ 0) = true := decide_eq_true h0
    have ge : r.tmod 1000 = r % 1000 := Int.tmod_eq_emod_of_nonneg h0
    have gd : r.tdiv 1000 = r / 1000 := Int.tdiv_eq_ediv_of_nonneg h0
    have hw : wrap64 (r / 1000) = r / 1000 := by unfold wrap64; omega
    have hw2 : IntKind.i64.wrap (r / 1000) = r / 1000 := by rw [IntKind.wrap_i64]; omega
    by_cases h1 : r % 1000 = 0
    · by_cases h2 : r / 1000 < 256
      · have h2' : decide (r / 1000 < 256) = true := decide_eq_true (by omega)
        rw [decide_eq_true (⟨h0, h1, h2⟩ : 0 ≤ r ∧ r % 1000 = 0 ∧ r / 1000 < 256)]
        go_enter Tryd.func37, Tryd.ntmps37
        go_wp2_with fail
        refine (HU.out _).mono ?_
        rintro e w1 ⟨rfl, rfl⟩
        have e1 : unU 12 = 1000 := rfl
        have e2 : unN 12 = 8 := rfl
        rw [e1, e2]
        go_wp2_with fail
        go_quiet (fail)
        go_wp2_with fail
        try rw [Exit.noGoto_ret]
        go_ret
        exact ⟨rfl, by repeat (first | exact Below.refl _ _ | assumption | refine below_drewN ?_ _ | refine Below.drew ?_ | refine Below.alloc ?_ (Nat.le_refl _) _ | refine bal ?_ _ | refine bnext ?_ (by assumption))⟩
      · have h2' : decide (r / 1000 < 256) = false := decide_eq_false (by omega)
        rw [decide_eq_false (fun h => h2 h.2.2 : ¬ (0 ≤ r ∧ r % 1000 = 0 ∧ r / 1000 < 256))]
        go_enter Tryd.func37, Tryd.ntmps37
        go_wp2_with fail
        refine (HU.out _).mono ?_
        rintro e w1 ⟨rfl, rfl⟩
        have e1 : unU 12 = 1000 := rfl
        have e2 : unN 12 = 8 := rfl
        rw [e1, e2]
        go_wp2_with fail
        go_quiet (fail)
        go_wp2_with fail
        try rw [Exit.noGoto_ret]
        go_ret
        exact ⟨rfl, by repeat (first | exact Below.refl _ _ | assumption | refine below_drewN ?_ _ | refine Below.drew ?_ | refine Below.alloc ?_ (Nat.le_refl _) _ | refine bal ?_ _ | refine bnext ?_ (by assumption))⟩
    · rw [decide_eq_false (fun h => h1 h.2.1 : ¬ (0 ≤ r ∧ r % 1000 = 0 ∧ r / 1000 < 256))]
      have h1' : (r % 1000 == 0) = false := by rw [beq_eq_false_iff_ne]; exact h1
      go_enter Tryd.func37, Tryd.ntmps37
      go_wp2_with fail
      refine (HU.out _).mono ?_
      rintro e w1 ⟨rfl, rfl⟩
      have e1 : unU 12 = 1000 := rfl
      have e2 : unN 12 = 8 := rfl
      rw [e1, e2]
      go_wp2_with fail
      go_quiet (fail)
      go_wp2_with fail
      try rw [Exit.noGoto_ret]
      go_ret
      exact ⟨rfl, by repeat (first | exact Below.refl _ _ | assumption | refine below_drewN ?_ _ | refine Below.drew ?_ | refine Below.alloc ?_ (Nat.le_refl _) _ | refine bal ?_ _ | refine bnext ?_ (by assumption))⟩
  · rw [decide_eq_false (fun h => h0 h.1 : ¬ (0 ≤ r ∧ r % 1000 = 0 ∧ r / 1000 < 256))]
    have g0 : decide (r ≥ 0) = false := decide_eq_false h0
    go_enter Tryd.func37, Tryd.ntmps37
    go_wp2_with fail
    refine (HU.out _).mono ?_
    rintro e w1 ⟨rfl, rfl⟩
    have e1 : unU 12 = 1000 := rfl
    have e2 : unN 12 = 8 := rfl
    rw [e1, e2]
    go_wp2_with fail
    go_quiet (fail)
    go_wp2_with fail
    try rw [Exit.noGoto_ret]
    go_ret
    exact ⟨rfl, by repeat (first | exact Below.refl _ _ | assumption | refine below_drewN ?_ _ | refine Below.drew ?_ | refine Below.alloc ?_ (Nat.le_refl _) _ | refine bal ?_ _ | refine bnext ?_ (by assumption))⟩

set_option maxHeartbeats 1600000 in
theorem rateFits_13 (V : Bool) (bc m dc n b r d : Int) (hr63 : r ≤ 9223372036854775807) (w : World) (ht : HTabs w) :
    Calls Tryd.prog 37 #[(Hd.mk V bc 13 m dc n b r d).val] w fun e w' => e = .returned (.bool (decide (0 ≤ r ∧ r % 1 = 0 ∧ r / 1 < 65536))) ∧ Below w.heap.size w w' := by
  simp only [Hd.val]
  have hc : w.cell? ⟨1, 13, none⟩ = some (.int .i64 (-2)) := ht.rat 13 (by omega)
  have hlt := cell_lt hc
  have hne : (1 : Nat) ≠ w.heap.size := by omega
  have HU := Lib.hid (fun W => unit_any 13 W)
  clear ht
  by_cases h0 : 0 ≤ r
  · have g0 : decide (r ≥ 0) = true := decide_eq_true h0
    have ge : r.tmod 1 = r % 1 := Int.tmod_eq_emod_of_nonneg h0
    have gd : r.tdiv 1 = r / 1 := Int.tdiv_eq_ediv_of_nonneg h0
    have hw : wrap64 (r) = r := by unfold wrap64; omega
    have hw2 : IntKind.i64.wrap (r) = r := by rw [IntKind.wrap_i64]; omega
    by_cases h1 : r % 1 = 0
    · by_cases h2 : r / 1 < 65536
      · have h2' : decide (r < 65536) = true := decide_eq_true (by omega)
        rw [decide_eq_true (⟨h0, h1, h2⟩ : 0 ≤ r ∧ r % 1 = 0 ∧ r / 1 < 65536)]
        go_enter Tryd.func37, Tryd.ntmps37
        go_wp2_with fail
        refine (HU.out _).mono ?_
        rintro e w1 ⟨rfl, rfl⟩
        have e1 : unU 13 = 1 := rfl
        have e2 : unN 13 = 16 := rfl
        rw [e1, e2]
        go_wp2_with fail
        go_quiet (fail)
        go_wp2_with fail
        try rw [Exit.noGoto_ret]
        go_ret
        exact ⟨rfl, by repeat (first | exact Below.refl _ _ | assumption | refine below_drewN ?_ _ | refine Below.drew ?_ | refine Below.alloc ?_ (Nat.le_refl _) _ | refine bal ?_ _ | refine bnext ?_ (by assumption))⟩
      · have h2' : decide (r < 65536) = false := decide_eq_false (by omega)
        rw [decide_eq_false (fun h => h2 h.2.2 : ¬ (0 ≤ r ∧ r % 1 = 0 ∧ r / 1 < 65536))]
        go_enter Tryd.func37, Tryd.ntmps37
        go_wp2_with fail
        refine (HU.out _).mono ?_
        rintro e w1 ⟨rfl, rfl⟩
        have e1 : unU 13 = 1 := rfl
        have e2 : unN 13 = 16 := rfl
        rw [e1, e2]
        go_wp2_with fail
        go_quiet (fail)
        go_wp2_with fail
        try rw [Exit.noGoto_ret]
        go_ret
        exact ⟨rfl, by repeat (first | exact Below.refl _ _ | assumption | refine below_drewN ?_ _ | refine Below.drew ?_ | refine Below.alloc ?_ (Nat.le_refl _) _ | refine bal ?_ _ | refine bnext ?_ (by assumption))⟩
    · exact absurd (by omega) h1
  · rw [decide_eq_false (fun h => h0 h.1 : ¬ (0 ≤ r ∧ r % 1 = 0 ∧ r / 1 < 65536))]
    have g0 : decide (r ≥ 0) = false := decide_eq_false h0
    go_enter Tryd.func37, Tryd.ntmps37
    go_wp2_with fail
    refine (HU.out _).mono ?_
    rintro e w1 ⟨rfl, rfl⟩
    have e1 : unU 13 = 1 := rfl
    have e2 : unN 13 = 16 := rfl
    rw [e1, e2]
    go_wp2_with fail
    go_quiet (fail)
    go_wp2_with fail
    try rw [Exit.noGoto_ret]
    go_ret
    exact ⟨rfl, by repeat (first | exact Below.refl _ _ | assumption | refine below_drewN ?_ _ | refine Below.drew ?_ | refine Below.alloc ?_ (Nat.le_refl _) _ | refine bal ?_ _ | refine bnext ?_ (by assumption))⟩

set_option maxHeartbeats 1600000 in
theorem rateFits_14 (V : Bool) (bc m dc n b r d : Int) (hr63 : r ≤ 9223372036854775807) (w : World) (ht : HTabs w) :
    Calls Tryd.prog 37 #[(Hd.mk V bc 14 m dc n b r d).val] w fun e w' => e = .returned (.bool (decide (0 ≤ r ∧ r % 10 = 0 ∧ r / 10 < 65536))) ∧ Below w.heap.size w w' := by
  simp only [Hd.val]
  have hc : w.cell? ⟨1, 14, none⟩ = some (.int .i64 (-2)) := ht.rat 14 (by omega)
  have hlt := cell_lt hc
  have hne : (1 : Nat) ≠ w.heap.size := by omega
  have HU := Lib.hid (fun W => unit_any 14 W)
  clear ht
  by_cases h0 : 0 ≤ r
  · have g0 : decide (r ≥ 0) = true := decide_eq_true h0
    have ge : r.tmod 10 = r % 10 := Int.tmod_eq_emod_of_nonneg h0
    have gd : r.tdiv 10 = r / 10 := Int.tdiv_eq_ediv_of_nonneg h0
    have hw : wrap64 (r / 10) = r / 10 := by unfold wrap64; omega
    have hw2 : IntKind.i64.wrap (r / 10) = r / 10 := by rw [IntKind.wrap_i64]; omega
    by_cases h1 : r % 10 = 0
    · by_cases h2 : r / 10 < 65536
      · have h2' : decide (r / 10 < 65536) = true := decide_eq_true (by omega)
        rw [decide_eq_true (⟨h0, h1, h2⟩ : 0 ≤ r ∧ r % 10 = 0 ∧ r / 10 < 65536)]
        go_enter Tryd.func37, Tryd.ntmps37
        go_wp2_with fail
        refine (HU.out _).mono ?_
        rintro e w1 ⟨rfl, rfl⟩
        have e1 : unU 14 = 10 := rfl
        have e2 : unN 14 = 16 := rfl
        rw [e1, e2]
        go_wp2_with fail
        go_quiet (fail)
        go_wp2_with fail
        try rw [Exit.noGoto_ret]
        go_ret
        exact ⟨rfl, by repeat (first | exact Below.refl _ _ | assumption | refine below_drewN ?_ _ | refine Below.drew ?_ | refine Below.alloc ?_ (Nat.le_refl _) _ | refine bal ?_ _ | refine bnext ?_ (by assumption))⟩
      · have h2' : decide (r / 10 < 65536) = false := decide_eq_false (by omega)
        rw [decide_eq_false (fun h => h2 h.2.2 : ¬ (0 ≤ r ∧ r % 10 = 0 ∧ r / 10 < 65536))]
        go_enter Tryd.func37, Tryd.ntmps37
        go_wp2_with fail
        refine (HU.out _).mono ?_
        rintro e w1 ⟨rfl, rfl⟩
        have e1 : unU 14 = 10 := rfl
        have e2 : unN 14 = 16 := rfl
        rw [e1, e2]
        go_wp2_with fail
        go_quiet (fail)
        go_wp2_with fail
        try rw [Exit.noGoto_ret]
        go_ret
        exact ⟨rfl, by repeat (first | exact Below.refl _ _ | assumption | refine below_drewN ?_ _ | refine Below.drew ?_ | refine Below.alloc ?_ (Nat.le_refl _) _ | refine bal ?_ _ | refine bnext ?_ (by assumption))⟩
    · rw [decide_eq_false (fun h => h1 h.2.1 : ¬ (0 ≤ r ∧ r % 10 = 0 ∧ r / 10 < 65536))]
      have h1' : (r % 10 == 0) = false := by rw [beq_eq_false_iff_ne]; exact h1
      go_enter Tryd.func37, Tryd.ntmps37
      go_wp2_with fail
      refine (HU.out _).mono ?_
      rintro e w1 ⟨rfl, rfl⟩
      have e1 : unU 14 = 10 := rfl
      have e2 : unN 14 = 16 := rfl
      rw [e1, e2]
      go_wp2_with fail
      go_quiet (fail)
      go_wp2_with fail
      try rw [Exit.noGoto_ret]
      go_ret
      exact ⟨rfl, by repeat (first | exact Below.refl _ _ | assumption | refine below_drewN ?_ _ | refine Below.drew ?_ | refine Below.alloc ?_ (Nat.le_refl _) _ | refine bal ?_ _ | refine bnext ?_ (by assumption))⟩
  · rw [decide_eq_false (fun h => h0 h.1 : ¬ (0 ≤ r ∧ r % 10 = 0 ∧ r / 10 < 65536))]
    have g0 : decide (r ≥ 0) = false := decide_eq_false h0
    go_enter Tryd.func37, Tryd.ntmps37
    go_wp2_with fail
    refine (HU.out _).mono ?_
    rintro e w1 ⟨rfl, rfl⟩
    have e1 : unU 14 = 10 := rfl
    have e2 : unN 14 = 16 := rfl
    rw [e1, e2]
    go_wp2_with fail
    go_quiet (fail)
    go_wp2_with fail
    try rw [Exit.noGoto_ret]
    go_ret
    exact ⟨rfl, by repeat (first | exact Below.refl _ _ | assumption | refine below_drewN ?_ _ | refine Below.drew ?_ | refine Below.alloc ?_ (Nat.le_refl _) _ | refine bal ?_ _ | refine bnext ?_ (by assumption))⟩

set_option maxHeartbeats 800000 in
theorem rateFits_any (h : Hd) (h0 : 0 ≤ h.rc) (h15 : h.rc < 16) (hr63 : h.r ≤ 9223372036854775807) (w : World) (ht : HTabs w) :
    Calls Tryd.prog 37 #[h.val] w fun e w' => e = .returned (.bool (rFits h.rc h.r)) ∧ Below w.heap.size w w' := by
  obtain ⟨V, bc, rc, m, dc, n, b, r, d⟩ := h
  simp only at h0 h15 hr63 ⊢
  obtain ⟨i, rfl⟩ : ∃ i : Nat, rc = i := ⟨rc.toNat, by omega⟩
  have hi : i < 16 := by omega
  by_cases hb : ratL.getD i 0 = -2
  · rcases rat_behind i hi hb with rfl | rfl | rfl
    · exact rateFits_12 V bc m dc n b r d hr63 w ht
    · exact rateFits_13 V bc m dc n b r d hr63 w ht
    · exact rateFits_14 V bc m dc n b r d hr63 w ht
  have e : rFits i r = decide (r = ratL.getD i 0) := by rw [rFits, Int.toNat_natCast, if_neg hb]
  have hc := ht.rat i hi
  rw [e]
  generalize ratL.getD i 0 = z at *
  clear e ht
  have hlt := cell_lt hc
  have hne : (1 : Nat) ≠ w.heap.size := by omega
  have hb' : (z != -2) = true := by rw [bne_iff_ne]; exact hb
  simp only [Hd.val]
  by_cases hz : r = z
  · subst hz
    rw [decide_eq_true rfl]
    go_enter Tryd.func37, Tryd.ntmps37
    go_wp2_with fail
    go_quiet (fail)
    go_wp2_with fail
    try rw [Exit.noGoto_ret]
    go_ret
    exact ⟨rfl, by repeat (first | exact Below.refl _ _ | assumption | refine below_drewN ?_ _ | refine Below.drew ?_ | refine Below.alloc ?_ (Nat.le_refl _) _ | refine bal ?_ _ | refine bnext ?_ (by assumption))⟩
  · rw [decide_eq_false hz]
    have hz' : (r == z) = false := by rw [beq_eq_false_iff_ne]; exact hz
    go_enter Tryd.func37, Tryd.ntmps37
    go_wp2_with fail
    go_quiet (fail)
    go_wp2_with fail
    try rw [Exit.noGoto_ret]
    go_ret
    exact ⟨rfl, by repeat (first | exact Below.refl _ _ | assumption | refine below_drewN ?_ _ | refine Below.drew ?_ | refine Below.alloc ?_ (Nat.le_refl _) _ | refine bal ?_ _ | refine bnext ?_ (by assumption))⟩
end Go.Proofs.YtgohfbfdhdepnaaDoor

namespace Go.Proofs.YtgohfbfdhdepnaaDoor
open Go.RowKit

/-- What an operation waits for. -/
def deps (o : Oper) : List Nat := (o.after.toList.filter (Region.binds .any)).map (·.on)
/-- No operation writes slot t ahead of operation i. -/
def freshAt (l : List Oper) (i t : Nat) : Bool := l.all fun o => o.dst != some t || (deps o).contains i
/-- Each operation waits for earlier ones alone; no two write one slot; each slot is there. -/
def orderOk (l : List Oper) (size : Nat) : Bool :=
  (l.zipIdx.all fun (o, i) => (deps o).all (· < i)) && (l.zipIdx.all fun (o, i) => l.zipIdx.all fun (o', j) => i == j || o.dst.isNone || o.dst != o'.dst) && l.all fun o => match o.dst with | some d => decide (d < size) | none => true

def finA : List Oper → Nat → (Nat → Value) → Act → Act
  | [], _, _, a => a
  | o :: r, k, f, a => finA r (k + 1) f (a.put o.dst (f k))

def OpsAll (p : Nat → Oper → Prop) : Nat → List Oper → Prop
  | _, [] => True
  | k, o :: r => p k o ∧ OpsAll p (k + 1) r

theorem OpsAll.get {p : Nat → Oper → Prop} {o : Oper} (l : List Oper) : ∀ (k i : Nat), OpsAll p k l → l[i]? = some o → p (k + i) o := by
  induction l with
  | nil => intro k i _ e; simp at e
  | cons o' r ih =>
    intro k i h e
    cases i with
    | zero => simp at e; subst e; exact h.1
    | succ i =>
      have := ih (k + 1) i h.2 (by simpa using e)
      rwa [show k + 1 + i = k + (i + 1) from by omega] at this

theorem put_size (a : Act) (d : Option Tmp) (v : Value) : (a.put d v).tmps.size = a.tmps.size := by cases d <;> simp [Act.put]
theorem put_defers (a : Act) (d : Option Tmp) (v : Value) : (a.put d v).defers = a.defers := by cases d <;> rfl
theorem put_same (a : Act) (d : Tmp) (v : Value) (h : d < a.tmps.size) : (a.put (some d) v).tmps[d]? = some v := by simp [Act.put, h]
theorem put_other (a : Act) (d : Option Tmp) (t : Tmp) (v : Value) (h : d ≠ some t) : (a.put d v).tmps[t]? = a.tmps[t]? := by
  cases d with
  | none => rfl
  | some d =>
    have : d ≠ t := fun e => h (by rw [e])
    simp [Act.put, Array.getElem?_setIfInBounds, this]

section
variable {l : List Oper}
theorem finA_size : ∀ (l : List Oper) (k : Nat) (f : Nat → Value) (a : Act), (finA l k f a).tmps.size = a.tmps.size ∧ (finA l k f a).defers = a.defers
  | [], _, _, _ => ⟨rfl, rfl⟩
  | o :: r, k, f, a => by
    have := finA_size r (k + 1) f (a.put o.dst (f k))
    rw [put_size, put_defers] at this
    exact this
theorem finA_other : ∀ (l : List Oper) (k : Nat) (f : Nat → Value) (a : Act) (t : Tmp), (∀ o ∈ l, o.dst ≠ some t) → (finA l k f a).tmps[t]? = a.tmps[t]?
  | [], _, _, _, _, _ => rfl
  | o :: r, k, f, a, t, h => by
    show (finA r (k + 1) f (a.put o.dst (f k))).tmps[t]? = _
    rw [finA_other r _ f _ t (fun o' h' => h o' (List.mem_cons_of_mem _ h')), put_other _ _ _ _ (h o (List.mem_cons_self ..))]
theorem finA_at (o : Oper) (d : Tmp) (f : Nat → Value) (l : List Oper) : ∀ (k i : Nat) (a : Act), l[i]? = some o → o.dst = some d → d < a.tmps.size →
    (∀ (j : Nat) (o' : Oper), l[j]? = some o' → o'.dst = some d → j = i) → (finA l k f a).tmps[d]? = some (f (k + i)) := by
  induction l with
  | nil => intro k i a he; simp at he
  | cons o' r ih =>
    intro k i a he hd hs hu
    show (finA r (k + 1) f (a.put o'.dst (f k))).tmps[d]? = _
    cases i with
    | zero =>
      simp at he; subst he
      rw [finA_other r _ f _ d (fun o2 h2 hd2 => by
        obtain ⟨j, hj⟩ := List.mem_iff_getElem?.1 h2
        have := hu (j + 1) o2 (by simpa using hj) hd2
        omega), hd, put_same _ _ _ hs]
      rfl
    | succ i =>
      rw [ih (k + 1) i _ (by simpa using he) hd (by rw [put_size]; exact hs) (fun j o2 h2 hd2 => by
        have := hu (j + 1) o2 (by simpa using h2) hd2
        omega), show k + 1 + i = k + (i + 1) from by omega]

theorem okOrder_lt {size i : Nat} {o : Oper} (h : orderOk l size = true) (hi : l[i]? = some o) : ∀ j ∈ deps o, j < i := by
  intro j hj
  simp only [orderOk, Bool.and_eq_true, List.all_eq_true] at h
  have := h.1.1 (o, i) (List.mk_mem_zipIdx_iff_getElem?.2 hi)
  simp only [List.all_eq_true] at this
  exact of_decide_eq_true (this j hj)
theorem okOrder_one {size i j : Nat} {o o' : Oper} {d : Tmp} (h : orderOk l size = true) (hi : l[i]? = some o) (hj : l[j]? = some o') (hd : o.dst = some d) (hd' : o'.dst = some d) : i = j := by
  simp only [orderOk, Bool.and_eq_true, List.all_eq_true] at h
  have h1 := h.1.2 (o, i) (List.mk_mem_zipIdx_iff_getElem?.2 hi) (o', j) (List.mk_mem_zipIdx_iff_getElem?.2 hj)
  simpa [hd, hd'] using h1
theorem okOrder_in {size i : Nat} {o : Oper} {d : Tmp} (h : orderOk l size = true) (hi : l[i]? = some o) (hd : o.dst = some d) : d < size := by
  simp only [orderOk, Bool.and_eq_true, List.all_eq_true] at h
  have := h.2 o (List.mem_of_getElem? hi)
  simpa [hd] using this

/-- What holds when the operations of 'done' have been carried out, with the results f. -/
structure MInv (l : List Oper) (R : Nat → Value → World → Prop) (J : World → Prop) (a0 : Act) (done : Array Bool) (f : Nat → Value) (a : Act) (w : World) : Prop where
  j : J w
  size : a.tmps.size = a0.tmps.size
  defers : a.defers = a0.defers
  dsize : done.size = l.length
  r : ∀ i : Nat, done.getD i false = true → R i (f i) w
  at_ : ∀ (i : Nat) (o : Oper) (d : Tmp), done.getD i false = true → l[i]? = some o → o.dst = some d → a.tmps[d]? = some (f i)
  rest : ∀ t : Tmp, (∀ (i : Nat) (o : Oper), done.getD i false = true → l[i]? = some o → o.dst ≠ some t) → a.tmps[t]? = a0.tmps[t]?
  dep : ∀ (i : Nat) (o : Oper), done.getD i false = true → l[i]? = some o → ∀ j ∈ deps o, done.getD j false = true
end

/-- What is to be shown of operation i. -/
def opOk (P : Program) (l : List Oper) (J : World → Prop) (R : Nat → Value → World → Prop) (a0 : Act) (i : Nat) (o : Oper) : Prop :=
  ∀ (a : Act) (w : World), J w → (∀ t, freshAt l i t = true → a.tmps.getD t undef = a0.tmps.getD t undef) →
    (∀ (j : Nat) (oj : Oper) (d : Tmp), (deps o).contains j = true → l[j]? = some oj → oj.dst = some d → R j (a.tmps.getD d undef) w) →
    if Region.wanted o (yielded l.toArray a.tmps) = true then ∀ Q, o.wp P a w (fun a' w' => ∃ v, a' = a.put o.dst v ∧ R i v w' ∧ J w' ∧ Below w.heap.size w w') Q else R i undef w

theorem ready_spec {l : List Oper} {listed : Array Bool} {i : Nat} (h : i ∈ Region.ready .any l.toArray listed) (hs : listed.size = l.length) :
    ∃ o, l[i]? = some o ∧ listed.getD i false = false ∧ ∀ j ∈ deps o, listed.getD j false = true := by
  simp only [Region.ready, List.mem_filter, List.mem_range, Bool.and_eq_true, Bool.not_eq_true'] at h
  obtain ⟨hi, h1, h2⟩ := h
  have hi' : i < l.length := by simpa using hi
  refine ⟨l[i], List.getElem?_eq_getElem hi', ?_, ?_⟩
  · have hil : i < listed.size := by omega
    simp [Array.getD, hil] at h1 ⊢
    exact h1
  · intro j hj
    simp only [List.getElem?_toArray, List.getElem?_eq_getElem hi', Option.map_some, Option.getD_some] at h2
    simp only [deps, List.mem_map, List.mem_filter] at hj
    obtain ⟨e, ⟨he, hb⟩, rfl⟩ := hj
    have := Array.all_eq_true'.1 h2 e (Array.mem_toList_iff.1 he)
    simpa [hb] using this
theorem ready_nil {l : List Oper} {listed : Array Bool} {size : Nat} (hok : orderOk l size = true) (hs : listed.size = l.length) (h : Region.ready .any l.toArray listed = []) : ∀ i, i < l.length → listed.getD i false = true := by
  intro i
  induction i using Nat.strongRecOn with
  | _ i ih =>
    intro hi
    have hn : i ∉ Region.ready .any l.toArray listed := by rw [h]; simp
    simp only [Region.ready, List.mem_filter, List.mem_range, not_and] at hn
    have h1 := hn (by simpa using hi)
    have hil : i < listed.size := by omega
    rw [List.getElem?_toArray, List.getElem?_eq_getElem hi, Option.map_some, Option.getD_some] at h1
    have e1 : ∀ b, listed.getD i b = listed[i] := fun b => by simp [Array.getD, hil]
    rw [e1] at h1 ⊢
    cases hc : listed[i] with
    | true => rfl
    | false =>
      exfalso
      apply h1
      rw [hc, Bool.not_false, Bool.true_and, Array.all_eq_true']
      intro e he
      by_cases hb : Region.binds .any e = true
      · have hd : e.on ∈ deps l[i] := by
          simp only [deps, List.mem_map, List.mem_filter]
          exact ⟨e, ⟨Array.mem_toList_iff.2 he, hb⟩, rfl⟩
        have hlt := okOrder_lt hok (List.getElem?_eq_getElem hi) _ hd
        rw [ih _ hlt (by omega), Bool.or_true]
      · simp at hb
        simp [hb]

theorem countP_lt {α : Type} {p q : α → Bool} (l : List α) (h : ∀ x ∈ l, q x = true → p x = true) (x : α) (hx : x ∈ l) (hp : p x = true) (hq : q x = false) : l.countP q < l.countP p := by
  induction l with
  | nil => cases hx
  | cons y l ih =>
    have hle : l.countP q ≤ l.countP p := List.countP_mono_left (fun z hz => h z (List.mem_cons_of_mem _ hz))
    rw [List.countP_cons, List.countP_cons]
    rcases List.mem_cons.1 hx with rfl | hx'
    · simp [hp, hq]; omega
    · have := ih (fun z hz => h z (List.mem_cons_of_mem _ hz)) hx'
      have h1 := h y (List.mem_cons_self ..)
      by_cases c : q y = true
      · simp [c, h1 c]; omega
      · simp [c]; omega

/-- How many operations are left. -/
def left_ (n : Nat) (done : Array Bool) : Nat := (List.range n).countP fun i => !done.getD i false

theorem getD_set (done : Array Bool) (i j : Nat) (h : i < done.size) : (done.setIfInBounds i true).getD j false = if j = i then true else done.getD j false := by
  by_cases e : j = i
  · subst e; simp [Array.getD, h]
  · rw [if_neg e]
    by_cases hj : j < done.size
    · simp [Array.getD, hj, Array.getElem_setIfInBounds, Ne.symm e]
    · simp [Array.getD, hj]

theorem wpAny_mono {P : Program} {l : List Oper} {Q : Exit → Act → World → Prop} {J : World → Prop} {R : Nat → Value → World → Prop} {a0 : Act}
    (hst : ∀ i v w w', R i v w → Below w.heap.size w w' → R i v w') (hord : orderOk l a0.tmps.size = true) (hop : OpsAll (opOk P l J R a0) 0 l)
    (hQ : ∀ f w', J w' → (∀ i, i < l.length → R i (f i) w') → Q .normal (finA l 0 f a0) w') :
    ∀ (fuel : Nat) (done : Array Bool) (a : Act) (w : World) (f : Nat → Value), left_ l.length done ≤ fuel → MInv l R J a0 done f a w → wpAny P .any l.toArray Q fuel done a w := by
  have hend : ∀ (done : Array Bool) (a : Act) (w : World) (f : Nat → Value), MInv l R J a0 done f a w → (∀ i, i < l.length → done.getD i false = true) → Q .normal a w := by
    intro done a w f hI hall
    have hfs := finA_size l 0 f a0
    have e : a = finA l 0 f a0 := by
      have ht : a.tmps = (finA l 0 f a0).tmps := by
        refine Array.ext (by rw [hI.size, hfs.1]) fun t h1 h2 => ?_
        have hx : a.tmps[t]? = (finA l 0 f a0).tmps[t]? := by
          by_cases c : ∃ (i : Nat) (o : Oper), l[i]? = some o ∧ o.dst = some t
          · obtain ⟨i, o, ho, hd⟩ := c
            have hi : i < l.length := (List.getElem?_eq_some_iff.1 ho).1
            rw [hI.at_ i o t (hall i hi) ho hd, finA_at o t f l 0 i a0 ho hd (okOrder_in hord ho hd) (fun j o' h1 h2 => okOrder_one hord h1 ho h2 hd), Nat.zero_add]
          · have hno : ∀ (i : Nat) (o : Oper), l[i]? = some o → o.dst ≠ some t := fun i o ho hd => c ⟨i, o, ho, hd⟩
            rw [hI.rest t (fun i o _ ho => hno i o ho), finA_other l 0 f a0 t (fun o ho => by
              obtain ⟨i, hi⟩ := List.mem_iff_getElem?.1 ho
              exact hno i o hi)]
        rw [Array.getElem?_eq_getElem h1, Array.getElem?_eq_getElem h2] at hx
        exact Option.some.inj hx
      have hd : a.defers = (finA l 0 f a0).defers := by rw [hI.defers, hfs.2]
      cases a; cases h : finA l 0 f a0
      rw [h] at ht hd
      simp_all
    rw [e]
    exact hQ f w hI.j (fun i hi => hI.r i (hall i hi))
  intro fuel
  induction fuel with
  | zero =>
    intro done a w f hl hI
    have hall : ∀ i, i < l.length → done.getD i false = true := by
      intro i hi
      have h0 : left_ l.length done = 0 := by omega
      have := List.countP_eq_zero.1 h0 i (by simpa using hi)
      simpa using this
    refine ⟨?_, hend done a w f hI hall⟩
    rw [List.eq_nil_iff_forall_not_mem]
    intro i hi
    obtain ⟨o, ho, hn, _⟩ := ready_spec hi hI.dsize
    have := hall i (List.getElem?_eq_some_iff.1 ho).1
    rw [hn] at this
    cases this
  | succ fuel ih =>
    intro done a w f hl hI
    refine ⟨fun h => hend done a w f hI (ready_nil hord hI.dsize h), ?_⟩
    intro i hi
    obtain ⟨o, ho, hn, hdeps⟩ := ready_spec hi hI.dsize
    have hil : i < l.length := (List.getElem?_eq_some_iff.1 ho).1
    have hid : i < done.size := by rw [hI.dsize]; exact hil
    have hstep : ∀ (v : Value) (w' : World), R i v w' → J w' → Below w.heap.size w w' → wpAny P .any l.toArray Q fuel (done.setIfInBounds i true) (a.put o.dst v) w' := by
      intro v w' hR hJ hB
      refine ih _ _ w' (fun j => if j = i then v else f j) ?_ ?_
      · have : left_ l.length (done.setIfInBounds i true) < left_ l.length done := by
          refine countP_lt _ (fun x _ hx => ?_) i (by simpa using hil) (by simp [hn]) (by simp [getD_set _ _ _ hid])
          rw [getD_set _ _ _ hid] at hx
          split at hx
          · simp at hx
          · exact hx
        omega
      · refine ⟨hJ, by rw [put_size, hI.size], by rw [put_defers, hI.defers], by simp [hI.dsize], ?_, ?_, ?_, ?_⟩
        · intro j hj
          rw [getD_set _ _ _ hid] at hj
          by_cases e : j = i
          · subst e; simpa using hR
          · rw [if_neg e] at hj
            simpa [e] using hst j _ w w' (hI.r j hj) hB
        · intro j oj d hj hoj hd
          rw [getD_set _ _ _ hid] at hj
          by_cases e : j = i
          · subst e
            rw [ho] at hoj
            obtain rfl := Option.some.inj hoj
            rw [hd, put_same _ _ _ (by rw [hI.size]; exact okOrder_in hord ho hd)]
            simp
          · rw [if_neg e] at hj
            rw [put_other _ _ _ _ (fun h => e (okOrder_one hord hoj ho hd h)), hI.at_ j oj d hj hoj hd]
            simp [e]
        · intro t ht
          rw [put_other _ _ _ _ (ht i o (by rw [getD_set _ _ _ hid]; simp) ho)]
          refine hI.rest t fun j oj hj hoj => ht j oj ?_ hoj
          rw [getD_set _ _ _ hid]
          split
          · rfl
          · exact hj
        · intro j oj hj hoj k hk
          rw [getD_set _ _ _ hid] at hj ⊢
          by_cases e : j = i
          · subst e
            rw [ho] at hoj
            obtain rfl := Option.some.inj hoj
            split
            · rfl
            · exact hdeps k hk
          · rw [if_neg e] at hj
            split
            · rfl
            · exact hI.dep j oj hj hoj k hk
    have hO := OpsAll.get l 0 i hop ho
    rw [Nat.zero_add] at hO
    have h1 := hO a w hI.j ?_ ?_
    · have hoo : l.toArray[i]? = some o := by simpa using ho
      unfold wpOp
      rw [hoo]
      show if Region.wanted o (yielded l.toArray a.tmps) = true then _ else _
      split
      · rename_i hw
        rw [if_pos hw] at h1
        refine .inl (Oper.wp_mono ?_ (h1 Q))
        rintro a' w' ⟨v, rfl, hR, hJ, hB⟩
        exact hstep v w' hR hJ hB
      · rename_i hw
        rw [if_neg hw] at h1
        exact hstep undef w h1 hI.j (Below.refl _ _)
    · intro t ht
      have : a.tmps[t]? = a0.tmps[t]? := by
        refine hI.rest t fun j oj hj hoj hd => ?_
        simp only [freshAt, List.all_eq_true] at ht
        have h2 := ht oj (List.mem_of_getElem? hoj)
        simp only [hd, bne_self_eq_false, Bool.false_or] at h2
        have h3 : i ∈ deps oj := by simpa using h2
        have := hI.dep j oj hj hoj i h3
        rw [hn] at this
        cases this
      rw [Array.getD_eq_getD_getElem?, Array.getD_eq_getD_getElem?, this]
    · intro j oj d hj hoj hd
      have hj' : done.getD j false = true := hdeps j (by simpa using hj)
      have := hI.at_ j oj d hj' hoj hd
      rw [Array.getD_eq_getD_getElem?, this]
      exact hI.r j hj'

theorem wp_any_mono {P : Program} {l : List Oper} {Q : Exit → Act → World → Prop} {a0 : Act} {w0 : World}
    (J : World → Prop) (R : Nat → Value → World → Prop) (hJ : J w0.drew) (hst : ∀ i v w w', R i v w → Below w.heap.size w w' → R i v w')
    (hord : orderOk l a0.tmps.size = true) (hop : OpsAll (opOk P l J R a0) 0 l)
    (hQ : ∀ f w', J w' → (∀ i, i < l.length → R i (f i) w') → Q .normal (finA l 0 f a0) w') : wpAny P .any l.toArray Q l.toArray.size (Array.replicate l.toArray.size false) a0 w0.drew := by
  refine wpAny_mono hst hord hop hQ _ _ a0 _ (fun _ => undef) ?_ ?_
  · exact Nat.le_trans List.countP_le_length (by simp)
  · have h0 : ∀ i, (Array.replicate l.toArray.size false).getD i false = false := fun i => by simp [Array.getD]
    refine ⟨hJ, rfl, rfl, by simp, ?_, ?_, ?_, ?_⟩
    · intro i hi; rw [h0] at hi; cases hi
    · intro i o d hi; rw [h0] at hi; cases hi
    · intro t _; rfl
    · intro i o hi; rw [h0] at hi; cases hi

theorem wp_region_mono {P : Program} {id : Nat} {l : List Oper} {Q : Exit → Act → World → Prop} {a0 : Act} {w0 : World} (hm : P.follows .mixedOrders = true)
    (J : World → Prop) (R : Nat → Value → World → Prop) (hJ : J w0.drew) (hst : ∀ i v w w', R i v w → Below w.heap.size w w' → R i v w')
    (hord : orderOk l a0.tmps.size = true) (hop : OpsAll (opOk P l J R a0) 0 l)
    (hQ : ∀ f w', J w' → (∀ i, i < l.length → R i (f i) w') → Q .normal (finA l 0 f a0) w') : (Code.region id l.toArray true).wp P Q a0 w0 :=
  wp_region_any hm (wp_any_mono J R hJ hst hord hop hQ)

/-- What is told of an operation's result: its value, or a relation that new memory does not turn. -/
inductive Spec where
  | val (v : Value)
  | rel (p : Value → World → Prop) (h : ∀ v w w', p v w → Below w.heap.size w w' → p v w')
  | any
def Spec.holds : Spec → Value → World → Prop
  | .val u, v, _ => v = u
  | .rel p _, v, w => p v w
  | .any, _, _ => True
theorem Spec.stable (s : Spec) (v : Value) (w w' : World) (h : s.holds v w) (hb : Below w.heap.size w w') : s.holds v w' := by
  cases s with
  | val u => exact h
  | rel p hp => exact hp v w w' h hb
  | any => trivial
/-- A new row of cells. -/
def Spec.row (cs : Array Value) (t : TypeId) (n : Nat) : Spec :=
  .rel (fun v w => ∃ g, v = .slice (some ⟨g, 0, none⟩) n n ∧ w.heap[g]? = some (.cells cs t (0, 0))) fun _ w w' ⟨g, h1, h2⟩ hb => ⟨g, h1, by
    rw [hb.block g (Array.getElem?_eq_some_iff.1 h2).1]; exact h2⟩
def specR (specs : List Spec) (i : Nat) (v : Value) (w : World) : Prop := (specs.getD i .any).holds v w

theorem wp_region_specs {P : Program} {id : Nat} {l : List Oper} {Q : Exit → Act → World → Prop} {a0 : Act} {w0 : World} (specs : List Spec) (w : World) (hm : P.follows .mixedOrders = true)
    (hJ : Below w.heap.size w w0) {n : Nat} (hn : a0.tmps.size = n) (hord : orderOk l n = true) (hop : OpsAll (opOk P l (fun w' => Below w.heap.size w w') (specR specs) a0) 0 l)
    (hQ : ∀ f w', Below w.heap.size w w' → (∀ i, i < l.length → specR specs i (f i) w') → Q .normal (finA l 0 f a0) w') : (Code.region id l.toArray true).wp P Q a0 w0 :=
  wp_region_mono hm (fun w' => Below w.heap.size w w') (specR specs) hJ.drew (fun i v w w' h hb => Spec.stable (specs.getD i .any) v w w' h hb) (hn ▸ hord) hop hQ

theorem slot_bool {a : Act} {d : Tmp} {b : Bool} (hv : a.tmps.getD d undef = .bool b) : a.tmps[d]? = some (.bool b) := by
  rw [Array.getD_eq_getD_getElem?] at hv
  cases h : a.tmps[d]? with
  | none => rw [h] at hv; simp [undef] at hv
  | some v => rw [h] at hv; simp at hv; rw [hv]
theorem wanted_yes {l : List Oper} {a : Act} {o oj : Oper} {j : Nat} {d : Tmp} {b : Bool} (hg : o.guard = some (j, b)) (hj : l[j]? = some oj) (hd : oj.dst = some d) (hv : a.tmps.getD d undef = .bool b) : Region.wanted o (yielded l.toArray a.tmps) = true := by
  simp only [Region.wanted, hg, yielded]
  simp [hj, hd, slot_bool hv]
theorem wanted_no {l : List Oper} {a : Act} {o oj : Oper} {j : Nat} {d : Tmp} {b b' : Bool} (hg : o.guard = some (j, b)) (hj : l[j]? = some oj) (hd : oj.dst = some d) (hv : a.tmps.getD d undef = .bool b') (hne : b' ≠ b) : Region.wanted o (yielded l.toArray a.tmps) = false := by
  simp only [Region.wanted, hg, yielded]
  simp [hj, hd, slot_bool hv, hne]
theorem if_wanted {A : Prop} {B : Prop} {c : Bool} (h : c = true) (hA : A) : if c = true then A else B := by rw [if_pos h]; exact hA
theorem if_unwanted {A : Prop} {B : Prop} {c : Bool} (h : c = false) (hB : B) : if c = true then A else B := by rw [h]; exact hB
theorem slot' {a : Act} {t : Nat} {v : Value} (h : a.tmps.getD t undef = v) : a.tmps[t]?.getD undef = v := by rw [← Array.getD_eq_getD_getElem?]; exact h
theorem op_any {P : Program} {o : Oper} {a : Act} {w : World} {R : Value → World → Prop} {J : World → Prop} {Q : Exit → Act → World → Prop}
    (h : ∀ K : Act → World → Prop, (∀ v w', R v w' → J w' → Below w.heap.size w w' → K (a.put o.dst v) w') → o.wp P a w K Q) :
    o.wp P a w (fun a' w' => ∃ v, a' = a.put o.dst v ∧ R v w' ∧ J w' ∧ Below w.heap.size w w') Q :=
  h _ fun v _ h1 h2 h3 => ⟨v, rfl, h1, h2, h3⟩
/-- Slices in a block that is known whole. -/
theorem BSS.blk {w : World} {g : Nat} {vs : List Value} {t : TypeId} {ls : List (List UInt8)} {n : Nat} (h : w.heap[g]? = some (.cells vs.toArray t (0, 0))) (hn : n = ls.length) (hl : vs.length = ls.length)
    (hx : ∀ (j : Nat) (x : Value) (y : List UInt8), vs[j]? = some x → ls[j]? = some y → BS w x y) : BSS w (.slice (some ⟨g, 0, none⟩) n n) ls := by
  subst hn
  refine ⟨_, _, vs, rfl, Nat.le_refl _, ?_, hl, hx⟩
  intro j u hu
  refine ⟨g, 0, rfl, ?_⟩
  rw [cell_of_row _ g (0 + j) _ t (0, 0) h]
  simpa using hu
theorem BSS.blk1 {w : World} {g : Nat} {v : Value} {t : TypeId} {l : List UInt8} (h : w.heap[g]? = some (.cells #[v] t (0, 0))) (hv : BS w v l) : BSS w (.slice (some ⟨g, 0, none⟩) 1 1) [l] :=
  BSS.blk (vs := [v]) h rfl rfl fun j x y h1 h2 => by
    match j, h1, h2 with
    | 0, h1, h2 => simp at h1 h2; subst h1; subst h2; exact hv
end Go.Proofs.YtgohfbfdhdepnaaDoor
