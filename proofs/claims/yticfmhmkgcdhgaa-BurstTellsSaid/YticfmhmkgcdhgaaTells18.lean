/-
  jetsamlaw18.BurstTells: its walk.
-/
import Derived.Test.YticfmhmkgcdhgaaRAll18
import Derived.Test.YticfmhmkgcdhgaaMany18
namespace Go.Proofs.Yticfmhmkgcdhgaa
open Go.RowKit
open Crc (bits8 bitsOf bits8_le bitsOf_le bl bk)

set_option maxRecDepth 100000 in
set_option maxHeartbeats 1600000 in
theorem tells_walk (l : List UInt8) (A : Option Addr) (c : Nat) (most : Int) (w : World) (hl : Rd w A (bv l)) (hn : A = none → l.length = 0 ∧ c = 0) :
    Calls Try.prog 4 #[.slice A l.length c, .int .i64 most] w fun e w' => e = .returned (.bool true) ∧ Below w.heap.size w w' := by
  by_cases h1 : (8 : Int) < l.length
  · clear hl hn
    go_enter Try.func4, Try.ntmps4
    go_wp2_with fail
    (refine (awake_any _).mono ?_; rintro e w9 ⟨rfl, hb9⟩; go_wp2_with fail; go_ret; exact ⟨rfl, by repeat (first | exact Below.refl _ _ | assumption | refine below_drewN ?_ _ | refine Below.drew ?_ | refine Below.alloc ?_ (Nat.le_refl _) _ | refine bal ?_ _ | refine bnext ?_ (by assumption))⟩)
  by_cases h2 : most > 5
  · clear hl hn
    go_enter Try.func4, Try.ntmps4
    go_wp2_with fail
    (refine (awake_any _).mono ?_; rintro e w9 ⟨rfl, hb9⟩; go_wp2_with fail; go_ret; exact ⟨rfl, by repeat (first | exact Below.refl _ _ | assumption | refine below_drewN ?_ _ | refine Below.drew ?_ | refine Below.alloc ?_ (Nat.le_refl _) _ | refine bal ?_ _ | refine bnext ?_ (by assumption))⟩)
  have HL := Lib.hid (listedB l A c most w hl (by omega) hn)
  have HBt := Lib.hid (fun W (h : Below w.heap.size w W) => Bits_any l A c W (hl.below h) (by omega))
  have HMn := Lib.hid (fun W (h : Below w.heap.size w W) => Many_any l A c most W (hl.below h) (by omega) hn)
  have hle := allB_length l most
  have HRA := Lib.hid (fun W B d (h : Rd W B (nv (bitsOf l))) (h2 : B = none → d = 0) => RAll_any l B d most (by omega) (by omega) W h h2)
  clear hl hn
  go_enter Try.func4, Try.ntmps4
  go_wp2_with fail
  refine HL.out.mono ?_
  rintro e w1 ⟨A1, c1, rfl, HR1, hb1⟩
  go_wp2_with fail
  refine (HBt.out _ hb1).mono ?_
  rintro e w2 ⟨v2, rfl, hown2, hb2⟩
  obtain ⟨A2, c2, rfl, hc2, hr2, hn2⟩ := own_nilcap hown2
  have hb3 : Below w.heap.size w w2 := bnext hb1 hb2
  have HR2 : Hid (RdB w2 A1 (allB l most)) := HR1.out.below hb2
  have HR := Lib.hid (HRA.out w2 A2 c2 hr2 hn2)
  clear hown2 HRA hr2 hn2 HR1 hb1 hb2 HL HBt
  go_wp2_with fail
  refine HR.out.mono ?_
  rintro e w3 ⟨v3, rfl, hown3, hb4⟩
  obtain ⟨A3, c3, rfl, HW⟩ := rdB_own hown3.out
  have hb5 : Below w.heap.size w w3 := bnext hb3 hb4
  have HR3 : Hid (RdB w3 A1 (allB l most)) := HR2.out.below hb4
  have HM := Lib.hid (HMn.out w3 hb5)
  have HW := Lib.hid HW
  clear hown3 HR2 HR hb3 hb4 HMn
  obtain ⟨ys, hys2⟩ : ∃ ys, allB l most = ys := ⟨_, rfl⟩
  rw [hys2] at hle HR3 HW HM ⊢
  clear hys2
  go_wp2_with fail
  refine HM.out.mono ?_
  rintro e w4 ⟨rfl, hb6⟩
  have Hb4 := Lib.hid (bnext hb5 hb6)
  have HR4 : Hid (RdB w4 A1 ys) := HR3.out.below hb6
  have HW4 : Hid (RdB w4 A3 ys) := HW.out.below hb6
  clear HR3 HW HM hb5 hb6
  have hne : ((ys.length : Int) != (ys.length : Int)) = false := by simp
  go_wp2_with fail
  go_loopw [8] (fun i wr => ∃ k : Nat, k ≤ ys.length ∧ i = .int .i64 k ∧ Hid (RdB wr A1 ys) ∧ Hid (RdB wr A3 ys) ∧ Hid (Below w.heap.size w wr)) (fun i _ => ys.length - (intOf i).toNat)
  case atStart => exact ⟨0, by omega, rfl, HR4, HW4, Hb4⟩
  case round =>
    obtain ⟨k, hk, rfl, hr1, hr2, hb⟩ := hrel
    clear HR4 HW4 Hb4
    by_cases hkk : k < ys.length
    · obtain ⟨b2, o2, rfl, hx0, hx1, hx2⟩ := hr2.out k ys[k] (List.getElem?_eq_getElem hkk)
      obtain ⟨b1, o1, rfl, hy0, hy1, hy2⟩ := hr1.out k _ (List.getElem?_eq_getElem hkk)
      generalize ys[k] = x at *
      have hkI : (k : Int) < ys.length := by omega
      have hk64 : (ys.length : Int) ≤ 64 := by omega
      go_wp2_with fail
      go_quiet (fail)
      go_wp2_with fail
      go_roundw
      case rel => exact ⟨k + 1, by omega, by go_num, hr1.out.below (below_drewN (Below.refl _ _) _), hr2.out.below (below_drewN (Below.refl _ _) _), below_drewN hb.out _⟩
      case measure => simp [intOf] <;> omega
    · obtain rfl : k = ys.length := by omega
      have hb7 := hb.out
      go_wp2_with fail
      (refine (awake_any _).mono ?_; rintro e w9 ⟨rfl, hb9⟩; go_wp2_with fail; go_ret; exact ⟨rfl, by repeat (first | exact Below.refl _ _ | assumption | refine below_drewN ?_ _ | refine Below.drew ?_ | refine Below.alloc ?_ (Nat.le_refl _) _ | refine bal ?_ _ | refine bnext ?_ (by assumption))⟩)
end Go.Proofs.Yticfmhmkgcdhgaa
