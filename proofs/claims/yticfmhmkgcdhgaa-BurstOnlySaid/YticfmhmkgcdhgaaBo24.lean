/-
  jetsamlaw11.Bytes: it leaves the world alone, but for draws. And one burst, twice.
-/
import Derived.Test.YticfmhmkgcdhgaaBo23
set_option linter.unusedSimpArgs false
set_option linter.unusedVariables false
namespace Go.Proofs.Yticfmhmkgcdhgaa
open Go.RowKit
open Crc (burstB dmg bl)

set_option maxHeartbeats 800000 in
theorem bytesQ_any (l m : List UInt8) (A B : Option Addr) (c d : Nat) (w : World) (hl : Rd w A (bv l)) (hm : Rd w B (bv m)) (h63 : l.length < 9223372036854775807) :
    Calls Try.prog 21 #[.slice A l.length c, .slice B m.length d] w fun e w' => e = .returned (.bool (decide (l = m))) ∧ ∃ q, w' = w.drewN q := by
  have Hl := Lib.hid hl; clear hl
  have Hm := Lib.hid hm; clear hm
  by_cases hlen : l.length = m.length
  · have hx : ((l.length : Int) != (m.length : Int)) = false := by rw [bne_eq_false_iff_eq]; omega
    have Hlen := Lib.hid hlen
    clear hlen
    go_enter Try.func21, Try.ntmps21
    go_wp2_with fail
    go_loopw [5] (fun i wr => ∃ k : Nat, k ≤ l.length ∧ i = .int .i64 k ∧ (∃ q, wr = w.drewN q) ∧ Hid (l.take k = m.take k)) (fun i _ => l.length - (intOf i).toNat)
    case atStart => exact ⟨0, by omega, rfl, ⟨0, rfl⟩, by simp [Hid]⟩
    case round =>
      obtain ⟨k, hk, rfl, hwq, Ht⟩ := hrel
      have HW := Lib.hid hwq
      have hl' : Rd wr A (bv l) := by obtain ⟨q, hq⟩ := HW.out; rw [hq]; exact Hl.out.drewN q
      have hm' : Rd wr B (bv m) := by obtain ⟨q, hq⟩ := HW.out; rw [hq]; exact Hm.out.drewN q
      clear hwq
      by_cases hkk : k < l.length
      · have hkm : k < m.length := by have := Hlen.out; omega
        obtain ⟨b1, o1, rfl, hc1⟩ := hl' k (.int .u8 l[k].toNat) (by simp [bv, hkk])
        obtain ⟨b2, o2, rfl, hc2⟩ := hm' k (.int .u8 m[k].toNat) (by simp [bv, hkm])
        have hi0 : (0 : Int) ≤ (k : Int) := by omega
        have hi1 : (k : Int) < l.length := by omega
        have hi2 : (k : Int) < m.length := by omega
        have Hs : Hid (l[k].toNat = m[k].toNat → l.take (k + 1) = m.take (k + 1)) := by
          intro h
          rw [List.take_succ_eq_append_getElem hkk, List.take_succ_eq_append_getElem hkm, Ht.out, UInt8.toNat_inj.1 h]
        have Hn : Hid (l[k].toNat ≠ m[k].toNat → l ≠ m) := by
          intro h e; subst e; exact h rfl
        generalize l[k].toNat = x at *
        generalize m[k].toNat = y at *
        by_cases hxy : x = y
        · have Hxy := Lib.hid hxy
          have hq : ((x : Int) != (y : Int)) = false := by rw [bne_eq_false_iff_eq]; omega
          clear hxy
          go_wp2_with fail
          go_quiet (fail)
          go_wp2_with fail
          go_roundw
          case rel => exact ⟨k + 1, by omega, by go_num, by obtain ⟨q, hq⟩ := HW.out; rw [hq]; exact ⟨_, World.drewN_drewN ..⟩, Hs.out Hxy.out⟩
          case measure => simp [intOf] <;> omega
        · have Hxy := Lib.hid hxy
          have hq : ((x : Int) != (y : Int)) = true := by rw [bne_iff_ne]; omega
          clear hxy
          go_wp2_with fail
          go_quiet (fail)
          go_wp2_with fail
          go_ret
          exact ⟨ret_bool (decide_eq_false (Hn.out Hxy.out)).symm, by obtain ⟨q, hq⟩ := HW.out; rw [hq]; exact ⟨_, World.drewN_drewN ..⟩⟩
      · obtain rfl : k = l.length := by omega
        have He : Hid (l = m) := by
          have h := Ht.out
          rw [List.take_of_length_le (Nat.le_refl _), List.take_of_length_le (by rw [Hlen.out]; exact Nat.le_refl _)] at h
          exact h
        go_wp2_with fail
        go_ret
        exact ⟨ret_bool (decide_eq_true He.out).symm, HW.out⟩
  · have hx : ((l.length : Int) != (m.length : Int)) = true := by rw [bne_iff_ne]; omega
    have Hn : Hid (l ≠ m) := fun e => hlen (by rw [e])
    clear hlen
    go_enter Try.func21, Try.ntmps21
    go_wp2_with fail
    go_ret
    exact ⟨ret_bool (decide_eq_false Hn.out).symm, ⟨0, rfl⟩⟩

theorem flip_flip (l : List UInt8) (k : Nat) : Crc.flip (Crc.flip l k) k = l := by
  unfold Crc.flip
  rw [List.set_set]
  rcases Nat.lt_or_ge (k / 8) l.length with h | h
  · have : (l.set (k / 8) (l.getD (k / 8) 0 ^^^ UInt8.ofNat (128 / 2 ^ (k % 8)))).getD (k / 8) 0 = l.getD (k / 8) 0 ^^^ UInt8.ofNat (128 / 2 ^ (k % 8)) := by simp [List.getD, h]
    rw [this, UInt8.xor_assoc, UInt8.xor_self, UInt8.xor_zero]
    simp [List.getD, h]
  · rw [List.set_eq_of_length_le h]
theorem flip_comm (l : List UInt8) (j k : Nat) : Crc.flip (Crc.flip l j) k = Crc.flip (Crc.flip l k) j := by
  unfold Crc.flip
  by_cases e : j / 8 = k / 8
  · rw [e, List.set_set, List.set_set]
    rcases Nat.lt_or_ge (k / 8) l.length with h | h
    · congr 1
      have h1 : ∀ x, (l.set (k / 8) x).getD (k / 8) 0 = x := fun x => by simp [List.getD, h]
      rw [h1, h1, UInt8.xor_assoc, UInt8.xor_assoc, UInt8.xor_comm (UInt8.ofNat _)]
    · rw [List.set_eq_of_length_le h, List.set_eq_of_length_le h]
  · have h1 : ∀ x, (l.set (j / 8) x).getD (k / 8) 0 = l.getD (k / 8) 0 := fun x => by simp [List.getD, e]
    have h2 : ∀ x, (l.set (k / 8) x).getD (j / 8) 0 = l.getD (j / 8) 0 := fun x => by simp [List.getD, Ne.symm e]
    rw [h1, h2, List.set_comm _ _ e]
theorem dmg_flip (l : List UInt8) (k a d : Nat) : ∀ i, dmg (Crc.flip l k) a d i = Crc.flip (dmg l a d i) k
  | 0 => rfl
  | i + 1 => by
    unfold dmg
    rw [Crc.flip_length, dmg_flip l k a d i]
    split
    · exact flip_comm _ _ _
    · rfl
theorem dmg_dmg (l : List UInt8) (a d : Nat) : ∀ i, dmg (dmg l a d i) a d i = l
  | 0 => rfl
  | i + 1 => by
    have h := dmg_dmg l a d i
    by_cases hc : d / 2 ^ (15 - i) % 2 = 1 ∧ a + i < 8 * l.length
    · have e1 : dmg l a d (i + 1) = Crc.flip (dmg l a d i) (a + i) := if_pos hc
      rw [e1]
      have e2 : ∀ m : List UInt8, m.length = l.length → dmg m a d (i + 1) = Crc.flip (dmg m a d i) (a + i) := fun m hm => if_pos (by rw [hm]; exact hc)
      rw [e2 _ (by rw [Crc.flip_length, Crc.dmg_length]), dmg_flip, flip_flip, h]
    · have e1 : dmg l a d (i + 1) = dmg l a d i := if_neg hc
      have e2 : ∀ m : List UInt8, m.length = l.length → dmg m a d (i + 1) = dmg m a d i := fun m hm => if_neg (by rw [hm]; exact hc)
      rw [e1, e2 _ (Crc.dmg_length ..), h]
theorem burst_twice (l : List UInt8) (a n p : Nat) : burstB (burstB l a n p) a n p = l := dmg_dmg _ _ _ _
end Go.Proofs.Yticfmhmkgcdhgaa
