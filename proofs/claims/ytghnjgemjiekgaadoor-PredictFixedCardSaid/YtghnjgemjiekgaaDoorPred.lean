/-
  predict: may, Check; slices.ContainsFunc and IndexFunc of ints at their predicates.
-/
import Derived.Test.YtghnjgemjiekgaaDoorTold2
import Derived.Deep.QuietTactic
import Derived.BigQuiet
namespace Go.Proofs.YtghnjgemjiekgaaDoor
open Go.RowKit

/-- A sample that may not be. -/
def outS (x : Int) : Bool := decide (x < -4294967296) || decide (4294967296 ≤ x)
/-- A coefficient that may not be. -/
def outC (h : Int) (x : Int) : Bool := decide (x < -h) || decide (h ≤ x)
theorem may1_still (x : Int) (w : World) : Calls Tryd.prog 28 #[.int .i64 x] w fun e w' => e = .returned (.bool (outS x)) ∧ w' = w := by
  by_cases h1 : x < -4294967296
  · have h : Hid (outS x = true) := by show _ = _; simp [outS, h1]
    go_enter Tryd.func28, Tryd.ntmps28
    go_wp2_with fail
    go_ret
    exact ⟨ret_bool (by first | exact h.out.symm | simp [h.out]), rfl⟩
  · by_cases h2 : 4294967296 ≤ x
    · have h : Hid (outS x = true) := by show _ = _; simp [outS, h2]
      go_enter Tryd.func28, Tryd.ntmps28
      go_wp2_with fail
      go_ret
      exact ⟨ret_bool (by first | exact h.out.symm | simp [h.out]), rfl⟩
    · have h : Hid (outS x = false) := by show _ = _; simp [outS]; omega
      go_enter Tryd.func28, Tryd.ntmps28
      go_wp2_with fail
      go_ret
      exact ⟨ret_bool (by first | exact h.out.symm | (rw [h.out]; simp; omega)), rfl⟩
theorem check1_still (x h : Int) (hh : 0 ≤ h ∧ h ≤ 16384) (g : Nat) (w : World) (hg : w.cell? ⟨g, 0, none⟩ = some (.int .i64 h)) : Calls Tryd.prog 26 #[.int .i64 x, .pointer (some ⟨g, 0, none⟩)] w fun e w' => e = .returned (.bool (outC h x)) ∧ w' = w := by
  by_cases h1 : x < -h
  · have h : Hid (outC h x = true) := by show _ = _; simp [outC, h1]
    go_enter Tryd.func26, Tryd.ntmps26
    go_wp2_with fail
    go_ret
    exact ⟨ret_bool (by first | exact h.out.symm | simp [h.out]), rfl⟩
  · by_cases h2 : h ≤ x
    · have h : Hid (outC h x = true) := by show _ = _; simp [outC, h2]
      go_enter Tryd.func26, Tryd.ntmps26
      go_wp2_with fail
      go_ret
      exact ⟨ret_bool (by first | exact h.out.symm | simp [h.out]), rfl⟩
    · have h : Hid (outC h x = false) := by show _ = _; simp [outC]; omega
      go_enter Tryd.func26, Tryd.ntmps26
      go_wp2_with fail
      go_ret
      exact ⟨ret_bool (by first | exact h.out.symm | (rw [h.out]; simp; omega)), rfl⟩
def idxS (r : Bool) (i : Int) : Prop := (r = true ∧ 0 ≤ i) ∨ (r = false ∧ i = -1)
set_option maxHeartbeats 400000 in
theorem indexS (l : List Int) (A : Option Addr) (c : Nat) (w : World) (hr : Rd w A (zv l)) (hz : True) (hl : l.length ≤ 9223372036854775807) :
    Calls Tryd.prog 30 #[.slice A l.length c, .func (.func 28) #[] #[]] w fun e w' => ∃ i, e = .returned (.int .i64 i) ∧ idxS (l.any outS) i ∧ w' = w := by
  have Hr := Lib.hid hr; clear hr
  have HP : Hid (∀ k, (h : k < l.length) → _) := Lib.hid (fun k (h : k < l.length) => may1_still l[k] w)
  clear hz
  have hq : Hid (l.any outS = (l.drop 0).any outS) := by show _ = _; simp
  go_enter Tryd.func30, Tryd.ntmps30
  go_wp2_with fail
  go_loop [8] (fun iv => ∃ k : Nat, k ≤ l.length ∧ iv = .int .i64 k ∧ Hid (l.any outS = (l.drop k).any outS)) (fun iv => l.length - (intOf iv).toNat)
  case atStart => exact ⟨0, by omega, rfl, hq⟩
  case round =>
    obtain ⟨k, hk, rfl, HK⟩ := hrel
    by_cases hkk : k < l.length
    · obtain ⟨b, o, rfl, hc⟩ := Hr.out k (.int .i64 l[k]) (by simp [zv, hkk])
      have HC := Lib.hid (HP.out k hkk)
      have HN : Hid ((l.drop k).any outS = (outS l[k] || (l.drop (k + 1)).any outS)) := by
        show _ = _
        rw [List.drop_eq_getElem_cons hkk, List.any_cons]
      generalize hx : l[k] = x at *
      clear hx
      generalize outS x = r at *
      cases r with
      | true =>
        go_wp2_with fail
        refine HC.out.mono ?_
        rintro e w' ⟨rfl, rfl⟩
        go_wp2_with fail
        go_ret
        exact ⟨_, rfl, .inl ⟨by rw [HK.out, HN.out]; rfl, by omega⟩, rfl⟩
      | false =>
        go_wp2_with fail
        refine HC.out.mono ?_
        rintro e w' ⟨rfl, rfl⟩
        go_wp2_with fail
        go_round
        case rel => exact ⟨k + 1, by omega, by go_num, by show _ = _; rw [HK.out, HN.out]; rfl⟩
        case measure => simp [intOf]; omega
    · obtain rfl : k = l.length := by omega
      have HN : Hid (l.any outS = false) := by show _ = _; rw [HK.out]; simp
      clear HK
      go_wp2_with fail
      go_ret
      exact ⟨_, rfl, .inr ⟨HN.out, rfl⟩, rfl⟩
set_option maxHeartbeats 400000 in
theorem containsS (l : List Int) (A : Option Addr) (c : Nat) (w : World) (hr : Rd w A (zv l)) (hz : True) (hl : l.length ≤ 9223372036854775807) :
    Calls Tryd.prog 25 #[.slice A l.length c, .func (.func 28) #[] #[]] w fun e w' => e = .returned (.bool (l.any outS)) ∧ w' = w := by
  have HI := Lib.hid (indexS l A c w hr (hz := hz) (hl := hl))
  clear hz
  generalize l.any outS = r at *
  go_enter Tryd.func25, Tryd.ntmps25
  go_wp2_with fail
  refine HI.out.mono ?_
  rintro e w' ⟨i, rfl, hi, rfl⟩
  have hd : decide (0 ≤ i) = r := by
    rcases hi with ⟨rfl, h⟩ | ⟨rfl, rfl⟩
    · exact decide_eq_true h
    · rfl
  have Hd := Lib.hid hd
  clear hd hi
  go_wp2_with fail
  go_ret
  exact ⟨ret_bool Hd.out, rfl⟩
def idxC (r : Bool) (i : Int) : Prop := (r = true ∧ 0 ≤ i) ∨ (r = false ∧ i = -1)
set_option maxHeartbeats 400000 in
theorem indexC (l : List Int) (A : Option Addr) (c : Nat) (w : World) (hr : Rd w A (zv l)) {hf : Int} {g : Nat} (hz : (0 ≤ hf ∧ hf ≤ 16384) ∧ w.cell? ⟨g, 0, none⟩ = some (.int .i64 hf)) (hl : l.length ≤ 9223372036854775807) :
    Calls Tryd.prog 30 #[.slice A l.length c, .func (.func 26) #[] #[.pointer (some ⟨g, 0, none⟩)]] w fun e w' => ∃ i, e = .returned (.int .i64 i) ∧ idxC (l.any (outC hf)) i ∧ w' = w := by
  have Hr := Lib.hid hr; clear hr
  have HP : Hid (∀ k, (h : k < l.length) → _) := Lib.hid (fun k (h : k < l.length) => check1_still l[k] hf hz.1 g w hz.2)
  clear hz
  have hq : Hid (l.any (outC hf) = (l.drop 0).any (outC hf)) := by show _ = _; simp
  go_enter Tryd.func30, Tryd.ntmps30
  go_wp2_with fail
  go_loop [8] (fun iv => ∃ k : Nat, k ≤ l.length ∧ iv = .int .i64 k ∧ Hid (l.any (outC hf) = (l.drop k).any (outC hf))) (fun iv => l.length - (intOf iv).toNat)
  case atStart => exact ⟨0, by omega, rfl, hq⟩
  case round =>
    obtain ⟨k, hk, rfl, HK⟩ := hrel
    by_cases hkk : k < l.length
    · obtain ⟨b, o, rfl, hc⟩ := Hr.out k (.int .i64 l[k]) (by simp [zv, hkk])
      have HC := Lib.hid (HP.out k hkk)
      have HN : Hid ((l.drop k).any (outC hf) = ((outC hf) l[k] || (l.drop (k + 1)).any (outC hf))) := by
        show _ = _
        rw [List.drop_eq_getElem_cons hkk, List.any_cons]
      generalize hx : l[k] = x at *
      clear hx
      generalize (outC hf) x = r at *
      cases r with
      | true =>
        go_wp2_with fail
        refine HC.out.mono ?_
        rintro e w' ⟨rfl, rfl⟩
        go_wp2_with fail
        go_ret
        exact ⟨_, rfl, .inl ⟨by rw [HK.out, HN.out]; rfl, by omega⟩, rfl⟩
      | false =>
        go_wp2_with fail
        refine HC.out.mono ?_
        rintro e w' ⟨rfl, rfl⟩
        go_wp2_with fail
        go_round
        case rel => exact ⟨k + 1, by omega, by go_num, by show _ = _; rw [HK.out, HN.out]; rfl⟩
        case measure => simp [intOf]; omega
    · obtain rfl : k = l.length := by omega
      have HN : Hid (l.any (outC hf) = false) := by show _ = _; rw [HK.out]; simp
      clear HK
      go_wp2_with fail
      go_ret
      exact ⟨_, rfl, .inr ⟨HN.out, rfl⟩, rfl⟩
set_option maxHeartbeats 400000 in
theorem containsC (l : List Int) (A : Option Addr) (c : Nat) (w : World) (hr : Rd w A (zv l)) {hf : Int} {g : Nat} (hz : (0 ≤ hf ∧ hf ≤ 16384) ∧ w.cell? ⟨g, 0, none⟩ = some (.int .i64 hf)) (hl : l.length ≤ 9223372036854775807) :
    Calls Tryd.prog 25 #[.slice A l.length c, .func (.func 26) #[] #[.pointer (some ⟨g, 0, none⟩)]] w fun e w' => e = .returned (.bool (l.any (outC hf))) ∧ w' = w := by
  have HI := Lib.hid (indexC l A c w hr (hz := hz) (hl := hl))
  clear hz
  generalize l.any (outC hf) = r at *
  go_enter Tryd.func25, Tryd.ntmps25
  go_wp2_with fail
  refine HI.out.mono ?_
  rintro e w' ⟨i, rfl, hi, rfl⟩
  have hd : decide (0 ≤ i) = r := by
    rcases hi with ⟨rfl, h⟩ | ⟨rfl, rfl⟩
    · exact decide_eq_true h
    · rfl
  have Hd := Lib.hid hd
  clear hd hi
  go_wp2_with fail
  go_ret
  exact ⟨ret_bool Hd.out, rfl⟩
set_option maxHeartbeats 400000 in
theorem may_any (l : List Int) (A : Option Addr) (c : Nat) (w : World) (hr : Rd w A (zv l)) (hl : l.length ≤ 9223372036854775807) :
    Calls Tryd.prog 21 #[.slice A l.length c] w fun e w' => e = .returned (.bool (!l.any outS)) ∧ w' = w := by
  have HC := Lib.hid (containsS l A c w hr trivial hl)
  generalize l.any outS = r at *
  go_enter Tryd.func21, Tryd.ntmps21
  go_wp2_with fail
  refine HC.out.mono ?_
  rintro e w' ⟨rfl, rfl⟩
  cases r <;> (go_wp2_with fail; go_ret; exact ⟨rfl, rfl⟩)
end Go.Proofs.YtghnjgemjiekgaaDoor
