/-
  jetsamlaw01.Bytes: it leaves the world alone, but for draws.
-/
import Derived.Test.YtibhhebfenkeaaaDoorRows
import Derived.Test.YtibhhebfenkeaaaDoorClone01
import Derived.BigQuiet
namespace Go.Proofs.YtibhhebfenkeaaaDoor
open Go.RowKit

set_option maxHeartbeats 800000 in
theorem bytesQ_any (l m : List UInt8) (A B : Option Addr) (c d : Nat) (w : World) (hl : Rd w A (bv l)) (hm : Rd w B (bv m)) (h63 : l.length < 9223372036854775807) :
    Calls Tryd.prog 13 #[.slice A l.length c, .slice B m.length d] w fun e w' => e = .returned (.bool (decide (l = m))) ∧ ∃ q, w' = w.drewN q := by
  have Hl := Lib.hid hl; clear hl
  have Hm := Lib.hid hm; clear hm
  by_cases hlen : l.length = m.length
  · have hx : ((l.length : Int) != (m.length : Int)) = false := by rw [bne_eq_false_iff_eq]; omega
    have Hlen := Lib.hid hlen
    clear hlen
    go_enter Tryd.func13, Tryd.ntmps13
    go_wp2_with fail
    go_loopw [5] (fun i wr => ∃ k : Nat, k ≤ l.length ∧ i = .int .i64 k ∧ (∃ q, wr = w.drewN q) ∧ Hid (l.take k = m.take k)) (fun i _ => l.length - (intOf i).toNat)
    case atStart => exact ⟨0, by omega, rfl, ⟨0, rfl⟩, by simp [Hid]⟩
    case round =>
      obtain ⟨k, hk, rfl, hwq, Ht⟩ := hrel
      have HW := Lib.hid hwq
      have hl' : Rd wr A (bv l) := by obtain ⟨q, hq⟩ := HW.out; rw [hq]; exact Hl.out.drewN q
      have hm' : Rd wr B (bv m) := by obtain ⟨q, hq⟩ := HW.out; rw [hq]; exact Hm.out.drewN q
      clear hwq
      by_cases hkk : k < l.length
      · have hkm : k < m.length := by have := Hlen.out; omega
        obtain ⟨b1, o1, rfl, hc1⟩ := hl' k (.int .u8 l[k].toNat) (by simp [bv, hkk])
        obtain ⟨b2, o2, rfl, hc2⟩ := hm' k (.int .u8 m[k].toNat) (by simp [bv, hkm])
        have hi0 : (0 : Int) ≤ (k : Int) := by omega
        have hi1 : (k : Int) < l.length := by omega
        have hi2 : (k : Int) < m.length := by omega
        have Hs : Hid (l[k].toNat = m[k].toNat → l.take (k + 1) = m.take (k + 1)) := by
          intro h
          rw [List.take_succ_eq_append_getElem hkk, List.take_succ_eq_append_getElem hkm, Ht.out, UInt8.toNat_inj.1 h]
        have Hn : Hid (l[k].toNat ≠ m[k].toNat → l ≠ m) := by
          intro h e; subst e; exact h rfl
        generalize l[k].toNat = x at *
        generalize m[k].toNat = y at *
        by_cases hxy : x = y
        · have Hxy := Lib.hid hxy
          have hq : ((x : Int) != (y : Int)) = false := by rw [bne_eq_false_iff_eq]; omega
          clear hxy
          go_wp2_with fail
          go_quiet (fail)
          go_wp2_with fail
          go_roundw
          case rel => exact ⟨k + 1, by omega, by go_num, by obtain ⟨q, hq⟩ := HW.out; rw [hq]; exact ⟨_, World.drewN_drewN ..⟩, Hs.out Hxy.out⟩
          case measure => simp [intOf] <;> omega
        · have Hxy := Lib.hid hxy
          have hq : ((x : Int) != (y : Int)) = true := by rw [bne_iff_ne]; omega
          clear hxy
          go_wp2_with fail
          go_quiet (fail)
          go_wp2_with fail
          go_ret
          exact ⟨ret_bool (decide_eq_false (Hn.out Hxy.out)).symm, by obtain ⟨q, hq⟩ := HW.out; rw [hq]; exact ⟨_, World.drewN_drewN ..⟩⟩
      · obtain rfl : k = l.length := by omega
        have He : Hid (l = m) := by
          have h := Ht.out
          rw [List.take_of_length_le (Nat.le_refl _), List.take_of_length_le (by rw [Hlen.out]; exact Nat.le_refl _)] at h
          exact h
        go_wp2_with fail
        go_ret
        exact ⟨ret_bool (decide_eq_true He.out).symm, HW.out⟩
  · have hx : ((l.length : Int) != (m.length : Int)) = true := by rw [bne_iff_ne]; omega
    have Hn : Hid (l ≠ m) := fun e => hlen (by rw [e])
    clear hlen
    go_enter Tryd.func13, Tryd.ntmps13
    go_wp2_with fail
    go_ret
    exact ⟨ret_bool (decide_eq_false Hn.out).symm, ⟨0, rfl⟩⟩
end Go.Proofs.YtibhhebfenkeaaaDoor
