import Derived.Test.YtikgpohoggpldaaRows
import Derived.Test.YtikgpohoggpldaaL
import Derived.WalkSpells
import Derived.Deep.QuietTactic
import Derived.BigQuiet
import Derived.Deep.RegionHeld3
import Derived.Deep.DeepCutAuto
import Derived.OwnWalk
import Derived.KernelRfl
namespace Go.Proofs.Ytikgpohoggpldaa
open Go.RowKit

/-- A slice of pairs of ints. -/
def RdP (w : World) (A : Option Addr) (l : List (Int × Int)) : Prop :=
  ∀ j x, l[j]? = some x → ∃ b o, A = some ⟨b, o, none⟩ ∧ w.cell? ⟨b, o + j * 2, none⟩ = some (.int .i64 x.1) ∧ w.cell? ⟨b, o + j * 2 + 1, none⟩ = some (.int .i64 x.2)
theorem RdP.below {w w' : World} {A : Option Addr} {l : List (Int × Int)} (h : RdP w A l) (hb : Below w.heap.size w w') : RdP w' A l := by
  intro j x hx
  obtain ⟨b, o, e, h1, h2⟩ := h j x hx
  exact ⟨b, o, e, (hb.cell (p := ⟨b, o + j * 2, none⟩) (cell_lt h1)).trans h1, (hb.cell (p := ⟨b, o + j * 2 + 1, none⟩) (cell_lt h2)).trans h2⟩
theorem RdP.take {w : World} {A : Option Addr} {l : List (Int × Int)} (h : RdP w A l) (n : Nat) : RdP w A (l.take n) := by
  intro j x hx
  rw [List.getElem?_take] at hx
  split at hx
  · exact h j x hx
  · cases hx
theorem RdP.nil (w : World) (A : Option Addr) : RdP w A [] := by intro j x h; simp at h

def okP (x : Int × Int) : Prop := 1 ≤ x.1 ∧ x.1 ≤ 65535 ∧ 1 ≤ x.2 ∧ x.2 ≤ 1073741824
instance (x : Int × Int) : Decidable (okP x) := by unfold okP; infer_instance
def fewB (l : List (Int × Int)) : Bool := decide (l.length ≤ 100) && l.all fun x => decide (okP x)
theorem fewB_iff (l : List (Int × Int)) : fewB l = true ↔ l.length ≤ 100 ∧ ∀ x ∈ l, okP x := by simp [fewB]

set_option maxHeartbeats 800000 in
theorem few_any (l : List (Int × Int)) (A : Option Addr) (c : Nat) (w : World) (hr : RdP w A l) (hlen : l.length ≤ 9223372036854775807) :
    Calls Try.prog 9 #[.slice A l.length c] w fun e w' => e = .returned (.bool (fewB l)) ∧ Below w.heap.size w w' := by
  have Hr := Lib.hid hr; clear hr
  go_enter Try.func9, Try.ntmps9
  go_wp2_with fail
  go_loop [3] (fun i => ∃ k : Nat, k ≤ l.length ∧ i = .int .i64 k ∧ ∀ x ∈ l.take k, okP x) (fun i => l.length - (intOf i).toNat)
  case atStart => exact ⟨0, by omega, rfl, by simp⟩
  case round =>
    obtain ⟨k, hk, rfl, hd⟩ := hrel
    have HD := Lib.hid hd; clear hd
    by_cases hkk : k < l.length
    · obtain ⟨b, o, rfl, hc1, hc2⟩ := Hr.out k _ (List.getElem?_eq_getElem hkk)
      have Hx : Hid (l.take (k + 1) = l.take k ++ [l[k]]) := List.take_succ_eq_append_getElem hkk
      have Hm : Hid (l[k] ∈ l) := List.getElem_mem hkk
      generalize l[k] = x at *
      obtain ⟨x, y⟩ := x
      by_cases ho : 1 ≤ x ∧ x ≤ 65535 ∧ 1 ≤ y ∧ y ≤ 1073741824
      · obtain ⟨o1, o2, o3, o4⟩ := ho
        go_wp2_with fail
        go_round
        case rel =>
          refine ⟨k + 1, by omega, by go_num, ?_⟩
          rw [Hx.out]
          intro z hz
          rcases List.mem_append.1 hz with h | h
          · exact HD.out z h
          · rw [List.mem_singleton.1 h]; exact ⟨o1, o2, o3, o4⟩
        case measure => simp [intOf]; omega
      · have Ho := Lib.hid ho; clear ho
        have Hbad : Hid (fewB l = false) := by
          rw [Hid, Bool.eq_false_iff]
          intro h; exact Ho.out (((fewB_iff l).1 h).2 _ Hm.out)
        by_cases g1 : x < 1
        · go_wp2_with fail
          go_ret
          exact ⟨by rw [Hbad.out]; rfl, Below.refl _ _⟩
        by_cases g2 : 65535 < x
        · go_wp2_with fail
          go_ret
          exact ⟨by rw [Hbad.out]; rfl, Below.refl _ _⟩
        by_cases g3 : y < 1
        · go_wp2_with fail
          go_ret
          exact ⟨by rw [Hbad.out]; rfl, Below.refl _ _⟩
        by_cases g4 : 1073741824 < y
        · go_wp2_with fail
          go_ret
          exact ⟨by rw [Hbad.out]; rfl, Below.refl _ _⟩
        · exact absurd ⟨by omega, by omega, by omega, by omega⟩ Ho.out
    · obtain rfl : k = l.length := by omega
      go_wp2_with fail
      go_ret
      refine ⟨ret_bool ?_, Below.refl _ _⟩
      have h1 := HD.out
      rw [List.take_of_length_le (Nat.le_refl _)] at h1
      rw [Bool.eq_iff_iff, fewB_iff, decide_eq_true_iff]
      exact ⟨fun h => ⟨by omega, h1⟩, fun h => by have := h.1; omega⟩

theorem known_any (n : Int) (w : World) :
    Calls Try.prog 24 #[.int .i64 n] w fun e w' => e = .returned (.int .i64 (if 16777215 < n then 0 else n)) ∧ Below w.heap.size w w' := by
  by_cases h : 16777215 < n
  · go_enter Try.func24, Try.ntmps24
    go_wp2_with fail
    go_ret
    exact ⟨rfl, Below.refl _ _⟩
  · go_enter Try.func24, Try.ntmps24
    go_wp2_with fail
    go_ret
    exact ⟨rfl, Below.refl _ _⟩
theorem known_still (n : Int) (w : World) :
    Calls Try.prog 24 #[.int .i64 n] w fun e w' => e = .returned (.int .i64 (if 16777215 < n then 0 else n)) ∧ w' = w := by
  by_cases h : 16777215 < n
  · go_enter Try.func24, Try.ntmps24
    go_wp2_with fail
    go_ret
    exact ⟨rfl, rfl⟩
  · go_enter Try.func24, Try.ntmps24
    go_wp2_with fail
    go_ret
    exact ⟨rfl, rfl⟩
theorem frame_any (n : Int) (w : World) :
    Calls Try.prog 23 #[.int .i64 n] w fun e w' => e = .returned (.int .i64 (if 16777215 < n then 0 else n)) ∧ Below w.heap.size w w' := by
  by_cases h : 16777215 < n
  · go_enter Try.func23, Try.ntmps23
    go_wp2_with fail
    go_ret
    exact ⟨rfl, Below.refl _ _⟩
  · go_enter Try.func23, Try.ntmps23
    go_wp2_with fail
    go_ret
    exact ⟨rfl, Below.refl _ _⟩
theorem frame_still (n : Int) (w : World) :
    Calls Try.prog 23 #[.int .i64 n] w fun e w' => e = .returned (.int .i64 (if 16777215 < n then 0 else n)) ∧ w' = w := by
  by_cases h : 16777215 < n
  · go_enter Try.func23, Try.ntmps23
    go_wp2_with fail
    go_ret
    exact ⟨rfl, rfl⟩
  · go_enter Try.func23, Try.ntmps23
    go_wp2_with fail
    go_ret
    exact ⟨rfl, rfl⟩
end Go.Proofs.Ytikgpohoggpldaa
