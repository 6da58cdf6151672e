/-
  jetsamlaw01.awake.
-/
import Derived.Test.YtgohfbfdhdepnaaDoorWrc01
namespace Go.Proofs.YtgohfbfdhdepnaaDoor
open Go.RowKit

def nv8 (l : List Nat) : List Value := l.map fun (x : Nat) => Value.int .u8 (x : Int)
set_option maxHeartbeats 800000 in
theorem bytesN_any (l m : List Nat) (A B : Option Addr) (c d : Nat) (w : World) (hl : Rd w A (nv8 l)) (hm : Rd w B (nv8 m)) (h63 : l.length < 9223372036854775807) :
    Calls Tryd.prog 13 #[.slice A l.length c, .slice B m.length d] w fun e w' => e = .returned (.bool (decide (l = m))) ∧ Below w.heap.size w w' := by
  have Hl := Lib.hid hl; clear hl
  have Hm := Lib.hid hm; clear hm
  by_cases hlen : l.length = m.length
  · have hx : ((l.length : Int) != (m.length : Int)) = false := by rw [bne_eq_false_iff_eq]; omega
    have Hlen := Lib.hid hlen
    clear hlen
    go_enter Tryd.func13, Tryd.ntmps13
    go_wp2_with fail
    go_loopw [5] (fun i wr => ∃ k : Nat, k ≤ l.length ∧ i = .int .i64 k ∧ Below w.heap.size w wr ∧ Hid (l.take k = m.take k)) (fun i _ => l.length - (intOf i).toNat)
    case atStart => exact ⟨0, by omega, rfl, Below.refl _ _, by simp [Hid]⟩
    case round =>
      obtain ⟨k, hk, rfl, hb, Ht⟩ := hrel
      by_cases hkk : k < l.length
      · have hkm : k < m.length := by have := Hlen.out; omega
        obtain ⟨b1, o1, rfl, hc1⟩ := (Hl.out.below hb) k (.int .u8 l[k]) (by simp [nv8, hkk])
        obtain ⟨b2, o2, rfl, hc2⟩ := (Hm.out.below hb) k (.int .u8 m[k]) (by simp [nv8, hkm])
        have hi0 : (0 : Int) ≤ (k : Int) := by omega
        have hi1 : (k : Int) < l.length := by omega
        have hi2 : (k : Int) < m.length := by omega
        have Hs : Hid (l[k] = m[k] → l.take (k + 1) = m.take (k + 1)) := by
          intro h
          rw [List.take_succ_eq_append_getElem hkk, List.take_succ_eq_append_getElem hkm, Ht.out, h]
        have Hn : Hid (l[k] ≠ m[k] → l ≠ m) := by
          intro h e; subst e; exact h rfl
        generalize l[k] = x at *
        generalize m[k] = y at *
        by_cases hxy : x = y
        · have Hxy := Lib.hid hxy
          have hq : ((x : Int) != (y : Int)) = false := by rw [bne_eq_false_iff_eq]; omega
          clear hxy
          go_wp2_with fail
          go_quiet (fail)
          go_wp2_with fail
          go_roundw
          case rel => exact ⟨k + 1, by omega, by go_num, by repeat (first | exact Below.refl _ _ | assumption | refine below_drewN ?_ _ | refine Below.drew ?_ | refine Below.alloc ?_ (Nat.le_refl _) _ | refine bal ?_ _ | refine bnext ?_ (by assumption)), Hs.out Hxy.out⟩
          case measure => simp [intOf] <;> omega
        · have Hxy := Lib.hid hxy
          have hq : ((x : Int) != (y : Int)) = true := by rw [bne_iff_ne]; omega
          clear hxy
          go_wp2_with fail
          go_quiet (fail)
          go_wp2_with fail
          go_ret
          exact ⟨ret_bool (decide_eq_false (Hn.out Hxy.out)).symm, by repeat (first | exact Below.refl _ _ | assumption | refine below_drewN ?_ _ | refine Below.drew ?_ | refine Below.alloc ?_ (Nat.le_refl _) _ | refine bal ?_ _ | refine bnext ?_ (by assumption))⟩
      · obtain rfl : k = l.length := by omega
        have He : Hid (l = m) := by
          have h := Ht.out
          rw [List.take_of_length_le (Nat.le_refl _), List.take_of_length_le (by rw [Hlen.out]; exact Nat.le_refl _)] at h
          exact h
        go_wp2_with fail
        go_ret
        exact ⟨ret_bool (decide_eq_true He.out).symm, hb⟩
  · have hx : ((l.length : Int) != (m.length : Int)) = true := by rw [bne_iff_ne]; omega
    have Hn : Hid (l ≠ m) := fun e => hlen (by rw [e])
    clear hlen
    go_enter Tryd.func13, Tryd.ntmps13
    go_wp2_with fail
    go_ret
    exact ⟨ret_bool (decide_eq_false Hn.out).symm, Below.refl _ _⟩
theorem bv_nv8 (l : List UInt8) : bv l = nv8 (l.map (·.toNat)) := by simp [bv, nv8]
theorem map_toNat_inj {l m : List UInt8} (h : l.map (·.toNat) = m.map (·.toNat)) : l = m := by
  induction l generalizing m with
  | nil => cases m with
    | nil => rfl
    | cons y m => simp at h
  | cons x l ih => cases m with
    | nil => simp at h
    | cons y m =>
      simp only [List.map_cons, List.cons.injEq] at h
      rw [UInt8.toNat_inj.1 h.1, ih h.2]
theorem bytes_any (l m : List UInt8) (A B : Option Addr) (c d : Nat) (w : World) (hl : Rd w A (bv l)) (hm : Rd w B (bv m)) (h63 : l.length < 9223372036854775807) :
    Calls Tryd.prog 13 #[.slice A l.length c, .slice B m.length d] w fun e w' => e = .returned (.bool (decide (l = m))) ∧ Below w.heap.size w w' := by
  rw [bv_nv8] at hl hm
  have h := bytesN_any (l.map (·.toNat)) (m.map (·.toNat)) A B c d w hl hm (by simpa using h63)
  rw [List.length_map, List.length_map, show decide (l.map (·.toNat) = m.map (·.toNat)) = decide (l = m) from decide_eq_decide.2 ⟨map_toNat_inj, fun e => by rw [e]⟩] at h
  exact h

theorem Take_l (R t t' : Nat) (A : Option Addr) (l : List UInt8) (c : Nat) (n v : Int) (w : World) (hr : Rdr w R t A l c) (h1 : tkE n (8 * l.length - t) = 0) (h2 : (tkV l t n : Int) = v) (h3 : tkT l t n = t') :
    Calls Tryd.prog 62 #[.pointer (some ⟨R, 0, none⟩), .int .i64 n] w fun e w' => e = .returned (.tuple #[.int .i64 v, .int .i64 0]) ∧ Rdr w' R t' A l c ∧ Fr (· = R) w w' := by
  have h := Take_any R t A l c n w hr
  rw [h1, h2, h3] at h
  exact h
end Go.Proofs.YtgohfbfdhdepnaaDoor
