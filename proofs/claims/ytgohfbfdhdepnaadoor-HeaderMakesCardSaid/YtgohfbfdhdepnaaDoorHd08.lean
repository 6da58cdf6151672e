/-
  header: the small functions, each one's contract.
-/
import Derived.Test.YtgohfbfdhdepnaaDoorRows
import Derived.Test.YtgohfbfdhdepnaaDoorRowLaws
import Derived.Test.YtgohfbfdhdepnaaDoorWr01
import Derived.Test.YtgohfbfdhdepnaaDoorCoded
namespace Go.Proofs.YtgohfbfdhdepnaaDoor
open Go.RowKit

/-- A header. -/
structure Hd where
  V : Bool
  bc : Int
  rc : Int
  m : Int
  dc : Int
  n : Int
  b : Int
  r : Int
  d : Int
def Hd.val (h : Hd) : Value := .agg #[.bool h.V, .int .i64 h.bc, .int .i64 h.rc, .int .i64 h.m, .int .i64 h.dc, .int .i64 h.n, .int .i64 h.b, .int .i64 h.r, .int .i64 h.d]
def Hd.zero : Hd := ⟨false, 0, 0, 0, 0, 0, 0, 0, 0⟩
def Hd.cells (h : Hd) : Array Value := #[.bool h.V, .int .i64 h.bc, .int .i64 h.rc, .int .i64 h.m, .int .i64 h.dc, .int .i64 h.n, .int .i64 h.b, .int .i64 h.r, .int .i64 h.d]

def blkL : List Int := [-1, 192, 576, 1152, 2304, 4608, -2, -2, 256, 512, 1024, 2048, 4096, 8192, 16384, 32768]
def ratL : List Int := [0, 88200, 176400, 192000, 8000, 16000, 22050, 24000, 32000, 44100, 48000, 96000, -2, -2, -2, -1]
def depL : List Int := [0, 8, 12, -1, 16, 20, 24, 32]
/-- The tables lie in the world. -/
structure HTabs (w : World) : Prop where
  blk : ∀ i, i < 16 → w.cell? ⟨0, i, none⟩ = some (.int .i64 (blkL.getD i 0))
  rat : ∀ i, i < 16 → w.cell? ⟨1, i, none⟩ = some (.int .i64 (ratL.getD i 0))
  dep : ∀ i, i < 8 → w.cell? ⟨2, i, none⟩ = some (.int .i64 (depL.getD i 0))
  lim : C3.TabAt w
theorem HTabs.below {w w' : World} (h : HTabs w) (hb : Below w.heap.size w w') : HTabs w' :=
  ⟨fun i hi => (hb.cell (p := ⟨0, i, none⟩) (cell_lt (h.blk i hi))).trans (h.blk i hi), fun i hi => (hb.cell (p := ⟨1, i, none⟩) (cell_lt (h.rat i hi))).trans (h.rat i hi), fun i hi => (hb.cell (p := ⟨2, i, none⟩) (cell_lt (h.dep i hi))).trans (h.dep i hi), h.lim.below hb⟩
theorem rd_tab {w : World} {g : Nat} (L : List Int) (h : ∀ i, i < L.length → w.cell? ⟨g, i, none⟩ = some (.int .i64 (L.getD i 0))) : Rd w (some ⟨g, 0, none⟩) (zv L) := by
  intro j u hu
  have hj : j < L.length := by
    have := (List.getElem?_eq_some_iff.1 hu).1
    rwa [zv_length] at this
  rw [zv_get L j hj] at hu
  refine ⟨g, 0, rfl, ?_⟩
  rw [Nat.zero_add, h j hj, ← hu, List.getD_eq_getElem?_getD, List.getElem?_eq_getElem hj]
  rfl

/-- What a code of a table tells. -/
def ofT (L : List Int) (c : Int) : Int := if c < 0 ∨ (L.length : Int) ≤ c then -1 else L.getD c.toNat 0
theorem of_any (L : List Int) (A : Option Addr) (k : Nat) (c : Int) (w : World) (hr : Rd w A (zv L)) :
    Calls Tryd.prog 58 #[.slice A L.length k, .int .i64 c] w fun e w' => e = .returned (.int .i64 (ofT L c)) ∧ w' = w := by
  by_cases h1 : c < 0
  · have e : ofT L c = -1 := if_pos (.inl h1)
    rw [e]
    clear e
    go_enter Tryd.func58, Tryd.ntmps58
    go_wp2_with fail
    go_ret
    exact ⟨rfl, rfl⟩
  by_cases h2 : (L.length : Int) ≤ c
  · have e : ofT L c = -1 := if_pos (.inr h2)
    rw [e]
    clear e
    have h3 : c ≥ (L.length : Int) := h2
    go_enter Tryd.func58, Tryd.ntmps58
    go_wp2_with fail
    go_ret
    exact ⟨rfl, rfl⟩
  obtain ⟨i, rfl⟩ : ∃ i : Nat, c = i := ⟨c.toNat, by omega⟩
  have hi : i < L.length := by omega
  have e : ofT L i = L.getD i 0 := by rw [ofT, if_neg (by omega), Int.toNat_natCast]
  obtain ⟨b, o, rfl, hc⟩ := hr i _ (zv_get L i hi)
  have e2 : L[i] = L.getD i 0 := by rw [List.getD_eq_getElem?_getD, List.getElem?_eq_getElem hi]; rfl
  rw [e2] at hc
  rw [e]
  generalize L.getD i 0 = z at *
  clear e e2 hr
  have h3 : ¬ ((i : Int) ≥ (L.length : Int)) := h2
  go_enter Tryd.func58, Tryd.ntmps58
  go_wp2_with fail
  go_ret
  exact ⟨rfl, rfl⟩

/-- The first error. -/
def fstE : List Int → Int
  | [] => 0
  | x :: l => if x = 0 then fstE l else x
set_option maxHeartbeats 800000 in
theorem first_any (l : List Int) (A : Option Addr) (c : Nat) (w : World) (hr : Rd w A (zv l)) (hl : l.length ≤ 100) :
    Calls Tryd.prog 33 #[.slice A l.length c] w fun e w' => e = .returned (.int .i64 (fstE l)) ∧ w' = w := by
  have Hr := Lib.hid hr
  clear hr
  go_enter Tryd.func33, Tryd.ntmps33
  go_wp2_with fail
  go_step3
  go_wp2_with fail
  go_step3
  go_wp2_with fail
  go_loop [3, 5, 8] (fun o u i => ∃ k : Nat, k ≤ l.length ∧ i = .int .i64 k ∧ o = .int .i64 0 ∧ Hid (fstE (l.drop k) = fstE l)) (fun _ _ i => l.length - (intOf i).toNat)
  case atStart => exact ⟨0, by omega, rfl, rfl, by rw [List.drop_zero]; rfl⟩
  case round =>
    obtain ⟨k, hk, rfl, rfl, Hf⟩ := hrel
    by_cases hkk : k < l.length
    · obtain ⟨b, o, rfl, hc⟩ := Hr.out k _ (zv_get l k hkk)
      have hd : Hid (fstE (l.drop k) = if l[k] = 0 then fstE (l.drop (k + 1)) else l[k]) := by
        show _ = _
        rw [List.drop_eq_getElem_cons hkk]; rfl
      generalize l[k] = x at *
      by_cases hx : x = 0
      · subst hx
        have Hf2 : Hid (fstE (l.drop (k + 1)) = fstE l) := by show _ = _; rw [← Hf.out, hd.out, if_pos rfl]
        clear hd Hf
        go_wp2_with fail
        go_round
        case rel => exact ⟨k + 1, by omega, by go_num, rfl, Hf2⟩
        case measure => simp [intOf] <;> omega
      · have hx' : (x != 0) = true := by rw [bne_iff_ne]; exact hx
        have Hf2 : Hid (fstE l = x) := by show _ = _; rw [← Hf.out, hd.out, if_neg hx]
        clear hd Hf
        go_wp2_with fail
        try rw [Exit.noGoto_ret]
        go_ret
        exact ⟨by rw [Hf2.out]; rfl, rfl⟩
    · obtain rfl : k = l.length := by omega
      have Hf2 : Hid (fstE l = 0) := by show _ = _; rw [← Hf.out, List.drop_length]; rfl
      clear Hf
      go_wp2_with fail
      try rw [Exit.noGoto_ret]
      go_ret
      exact ⟨by rw [Hf2.out]; rfl, rfl⟩

theorem wrong_any (b : Bool) (x : Int) (w : World) :
    Calls Tryd.prog 34 #[.bool b, .int .i64 x] w fun e w' => e = .returned (.int .i64 (if b then x else 0)) ∧ w' = w := by
  cases b
  · go_enter Tryd.func34, Tryd.ntmps34
    go_wp2_with fail
    go_ret
    exact ⟨rfl, rfl⟩
  · go_enter Tryd.func34, Tryd.ntmps34
    go_wp2_with fail
    go_ret
    exact ⟨rfl, rfl⟩
def mostV (b : Bool) : Int := if b then 68719476736 else 2147483648
theorem most_any (b : Bool) (w : World) :
    Calls Tryd.prog 35 #[.bool b] w fun e w' => e = .returned (.int .i64 (mostV b)) ∧ w' = w := by
  cases b
  · go_enter Tryd.func35, Tryd.ntmps35
    go_wp2_with fail
    go_ret
    exact ⟨rfl, rfl⟩
  · go_enter Tryd.func35, Tryd.ntmps35
    go_wp2_with fail
    go_ret
    exact ⟨rfl, rfl⟩
def bitV (b : Bool) : Nat := if b then 1 else 0
theorem bit_any (b : Bool) (w : World) :
    Calls Tryd.prog 26 #[.bool b] w fun e w' => e = .returned (.int .i64 (bitV b : Nat)) ∧ w' = w := by
  cases b
  · go_enter Tryd.func26, Tryd.ntmps26
    go_wp2_with fail
    go_ret
    exact ⟨rfl, rfl⟩
  · go_enter Tryd.func26, Tryd.ntmps26
    go_wp2_with fail
    go_ret
    exact ⟨rfl, rfl⟩
def unU (c : Int) : Int := if c = 12 then 1000 else if c = 14 then 10 else 1
def unN (c : Int) : Nat := if c = 12 then 8 else 16
theorem unit_any (c : Int) (w : World) :
    Calls Tryd.prog 29 #[.int .i64 c] w fun e w' => e = .returned (.tuple #[.int .i64 (unU c), .int .i64 (unN c : Nat)]) ∧ w' = w := by
  by_cases h1 : c = 12
  · subst h1
    go_enter Tryd.func29, Tryd.ntmps29
    go_wp2_with fail
    try rw [Exit.noGoto_ret]
    go_ret2
    exact ⟨rfl, rfl⟩
  have e1 : (c == 12) = false := by rw [beq_eq_false_iff_ne]; exact h1
  by_cases h2 : c = 14
  · subst h2
    go_enter Tryd.func29, Tryd.ntmps29
    go_wp2_with fail
    try rw [Exit.noGoto_ret]
    go_ret2
    exact ⟨rfl, rfl⟩
  have e2 : (c == 14) = false := by rw [beq_eq_false_iff_ne]; exact h2
  have e3 : unU c = 1 := by rw [unU, if_neg h1, if_neg h2]
  have e4 : unN c = 16 := by rw [unN, if_neg h1]
  rw [e3, e4]
  clear e3 e4
  go_enter Tryd.func29, Tryd.ntmps29
  go_wp2_with fail
  try rw [Exit.noGoto_ret]
  go_ret2
  exact ⟨rfl, rfl⟩
def chE (m : Int) : Int := if m < 0 ∨ 10 < m then 13 else 0
def chN (m : Int) : Int := if m < 0 ∨ 10 < m then 0 else if m < 8 then m + 1 else 2
theorem Channels_any (m : Int) (w : World) :
    Calls Tryd.prog 17 #[.int .i64 m] w fun e w' => e = .returned (.tuple #[.int .i64 (chN m), .int .i64 (chE m)]) ∧ w' = w := by
  by_cases h1 : m < 0
  · have e1 : chN m = 0 := if_pos (.inl h1)
    have e2 : chE m = 13 := if_pos (.inl h1)
    rw [e1, e2]
    clear e1 e2
    go_enter Tryd.func17, Tryd.ntmps17
    go_wp2_with fail
    try rw [Exit.noGoto_ret]
    go_ret2
    exact ⟨rfl, rfl⟩
  by_cases h2 : m > 10
  · have e1 : chN m = 0 := if_pos (.inr h2)
    have e2 : chE m = 13 := if_pos (.inr h2)
    rw [e1, e2]
    clear e1 e2
    go_enter Tryd.func17, Tryd.ntmps17
    go_wp2_with fail
    try rw [Exit.noGoto_ret]
    go_ret2
    exact ⟨rfl, rfl⟩
  have h12 : ¬ (m < 0 ∨ 10 < m) := by omega
  by_cases h3 : m < 8
  · have e1 : chN m = m + 1 := by rw [chN, if_neg h12, if_pos h3]
    have e2 : chE m = 0 := by rw [chE, if_neg h12]
    rw [e1, e2]
    clear e1 e2 h12
    go_enter Tryd.func17, Tryd.ntmps17
    go_wp2_with fail
    try rw [Exit.noGoto_ret]
    go_ret2
    exact ⟨rfl, rfl⟩
  have e1 : chN m = 2 := by rw [chN, if_neg h12, if_neg h3]
  have e2 : chE m = 0 := by rw [chE, if_neg h12]
  rw [e1, e2]
  clear e1 e2 h12
  go_enter Tryd.func17, Tryd.ntmps17
  go_wp2_with fail
  try rw [Exit.noGoto_ret]
  go_ret2
  exact ⟨rfl, rfl⟩

/-- Where a number stands in a list; -1: nowhere. -/
def idxL (L : List Int) (x : Int) : Int := match L.findIdx? (· == x) with | some i => (i : Int) | none => -1
set_option maxHeartbeats 800000 in
theorem Index_any (L : List Int) (A : Option Addr) (c : Nat) (x : Int) (w : World) (hr : Rd w A (zv L)) (hl : L.length ≤ 100) :
    Calls Tryd.prog 43 #[.slice A L.length c, .int .i64 x] w fun e w' => e = .returned (.int .i64 (idxL L x)) ∧ w' = w := by
  have Hr := Lib.hid hr
  clear hr
  go_enter Tryd.func43, Tryd.ntmps43
  go_wp2_with fail
  go_loop [5, 8] (fun u i => ∃ k : Nat, k ≤ L.length ∧ i = .int .i64 k ∧ Hid (∀ j (h : j < L.length), j < k → L[j] ≠ x)) (fun _ i => L.length - (intOf i).toNat)
  case atStart => exact ⟨0, by omega, rfl, fun j _ h => by omega⟩
  case round =>
    obtain ⟨k, hk, rfl, Hf⟩ := hrel
    by_cases hkk : k < L.length
    · obtain ⟨b, o, rfl, hc⟩ := Hr.out k _ (zv_get L k hkk)
      by_cases hx : x = L[k]
      · have Hf2 : Hid (idxL L x = (k : Int)) := by
          have : L.findIdx? (· == x) = some k := by
            rw [List.findIdx?_eq_some_iff_getElem]
            exact ⟨hkk, by simp [hx], fun j hj => by simpa using Hf.out j (by omega) hj⟩
          show _ = _
          unfold idxL; rw [this]
        clear Hf
        generalize L[k] = y at *
        subst hx
        go_wp2_with fail
        go_ret
        exact ⟨by rw [Hf2.out]; rfl, rfl⟩
      · have hx' : (x == L[k]) = false := by rw [beq_eq_false_iff_ne]; exact hx
        have Hf2 : Hid (∀ j (h : j < L.length), j < k + 1 → L[j] ≠ x) := by
          intro j h hj
          rcases Nat.lt_or_ge j k with h2 | h2
          · exact Hf.out j h h2
          · obtain rfl : j = k := by omega
            exact fun e => hx e.symm
        clear Hf
        generalize L[k] = y at *
        go_wp2_with fail
        go_round
        case rel => exact ⟨k + 1, by omega, by go_num, Hf2⟩
        case measure => simp [intOf] <;> omega
    · obtain rfl : k = L.length := by omega
      have Hf2 : Hid (idxL L x = -1) := by
        have : L.findIdx? (· == x) = none := by
          rw [List.findIdx?_eq_none_iff]
          intro y hy
          obtain ⟨j, hj, rfl⟩ := List.mem_iff_getElem.1 hy
          simpa using Hf.out j hj hj
        show _ = _
        unfold idxL; rw [this]
      clear Hf
      go_wp2_with fail
      go_ret
      exact ⟨by rw [Hf2.out]; rfl, rfl⟩
end Go.Proofs.YtgohfbfdhdepnaaDoor
