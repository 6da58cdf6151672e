/-
  Reader: Unary, Align.
-/
import Derived.Test.YtfncmgojeaeihaaRdb01
namespace Go.Proofs.Ytfncmgojeaeihaa
open Go.RowKit

/-- How many noughts there are ahead of a one, of so many bits. -/
def zs (f : Nat → Nat) : Nat → Nat → Nat
  | _, 0 => 0
  | t, m + 1 => if f t = 1 then 0 else 1 + zs f (t + 1) m
theorem zs_le (f : Nat → Nat) : ∀ m t, zs f t m ≤ m
  | 0, _ => Nat.le_refl _
  | m + 1, t => by
    rw [zs]
    split
    · omega
    · have := zs_le f m (t + 1); omega
theorem zs_skip (f : Nat → Nat) : ∀ k m p, (∀ i, i < k → f (p + i) ≠ 1) → k ≤ m → zs f p m = k + zs f (p + k) (m - k)
  | 0, m, p, _, _ => by simp
  | k + 1, 0, p, _, h => by omega
  | k + 1, m + 1, p, h, hk => by
    have h0 := h 0 (by omega)
    rw [Nat.add_zero] at h0
    rw [zs, if_neg h0, zs_skip f k m (p + 1) (fun i hi => by have := h (i + 1) (by omega); rwa [show p + (i + 1) = p + 1 + i from by omega] at this) (by omega), show p + 1 + k = p + (k + 1) from by omega, show m + 1 - (k + 1) = m - k from by omega]
    omega
def unE (l : List UInt8) (t : Nat) : Int := if zs (bitAt l) t (8 * l.length - t) < 8 * l.length - t then 0 else 11
def unV (l : List UInt8) (t : Nat) : Nat := if zs (bitAt l) t (8 * l.length - t) < 8 * l.length - t then zs (bitAt l) t (8 * l.length - t) else 0
def unT (l : List UInt8) (t : Nat) : Nat := if zs (bitAt l) t (8 * l.length - t) < 8 * l.length - t then t + zs (bitAt l) t (8 * l.length - t) + 1 else t
theorem bitAt_zero (l : List UInt8) (p i : Nat) (hp : p % 8 = 0) (hi : i < 8) (h0 : (l.getD (p / 8) 0).toNat = 0) : bitAt l (p + i) ≠ 1 := by
  rw [bitAt, show (p + i) / 8 = p / 8 from by omega, h0, Nat.zero_div]
  decide

set_option maxRecDepth 100000 in
set_option maxHeartbeats 2000000 in
theorem Unary_any (R t : Nat) (A : Option Addr) (l : List UInt8) (c : Nat) (w : World) (hr : Rdr w R t A l c) :
    Calls Try.prog 30 #[.pointer (some ⟨R, 0, none⟩)] w fun e w' => e = .returned (.tuple #[.int .i64 (unV l t : Nat), .int .i64 (unE l t)]) ∧ Rdr w' R (unT l t) A l c ∧ Fr (· = R) w w' := by
  have HE : Hid (unE l t = if zs (bitAt l) t (8 * l.length - t) < 8 * l.length - t then 0 else 11) := rfl
  have HV : Hid (unV l t = if zs (bitAt l) t (8 * l.length - t) < 8 * l.length - t then zs (bitAt l) t (8 * l.length - t) else 0) := rfl
  have HT : Hid (unT l t = if zs (bitAt l) t (8 * l.length - t) < 8 * l.length - t then t + zs (bitAt l) t (8 * l.length - t) + 1 else t) := rfl
  obtain ⟨Z, hZ⟩ : ∃ Z, zs (bitAt l) t (8 * l.length - t) = Z := ⟨_, rfl⟩
  rw [hZ] at HE HV HT
  have HZ := Lib.hid hZ
  clear hZ
  generalize unE l t = E at *
  generalize unV l t = V at *
  generalize unT l t = T at *
  have Hr := Lib.hid hr
  have hlen := hr.len
  have hle := hr.le
  have h0 := hr.row.c0
  have h1 := hr.row.c1
  clear hr
  have hwm : IntKind.i64.wrap ((l.length : Int) * 8) = (l.length : Int) * 8 := by rw [IntKind.wrap_i64]; omega
  go_enter Try.func30, Try.ntmps30
  go_wp2_with fail
  go_step3
  go_wp2_with fail
  go_quiet (fail)
  clear h0 h1
  generalize hwn : w.drewN nq = wn
  have hbn : Below w.heap.size w wn := by rw [← hwn]; exact below_drewN (Below.refl _ _) _
  have Hrn := Lib.hid (Hr.out.below hbn)
  clear hwn
  go_wp2_with fail
  go_step3
  go_wp2_with fail
  go_loopw [4] (fun pv wr => ∃ p : Nat, t ≤ p ∧ p ≤ 8 * l.length ∧ pv = .int .i64 (p : Int) ∧ Hid (Z = p - t + zs (bitAt l) p (8 * l.length - p)) ∧ Hid (Below wn.heap.size wn wr)) (fun pv _ => 8 * l.length - (intOf pv).toNat)
  case atStart => exact ⟨t, Nat.le_refl _, hle, rfl, by show _ = _; rw [HZ.out, Nat.sub_self, Nat.zero_add], Below.refl _ _⟩
  case round =>
    obtain ⟨p, hp, hpl, rfl, Hzp, Hb⟩ := hrel
    have Hrw := Lib.hid (Hrn.out.below Hb.out)
    have h0 := Hrw.out.row.c0
    have h1 := Hrw.out.row.c1
    have hfz := Hrw.out.row.fz
    by_cases hpp : p < 8 * l.length
    · obtain ⟨d, hd⟩ : ∃ d, p / 8 = d := ⟨_, rfl⟩
      obtain ⟨s, hs⟩ : ∃ s, p % 8 = s := ⟨_, rfl⟩
      have hdl : d < l.length := by omega
      have hs8 : s < 8 := by omega
      obtain ⟨b, o, hA, hc⟩ := Hrw.out.rd d (.int .u8 (l.getD d 0).toNat) (by rw [bv_get l d hdl]; simp [List.getD_eq_getElem?_getD, List.getElem?_eq_getElem hdl])
      have hx := (l.getD d 0).toNat_lt
      have hpd : (p : Int) / 8 = (d : Int) := by omega
      have hps : (p : Int) % 8 = (s : Int) := by omega
      have hd0 : (d : Int) < l.length := by omega
      have hpi : (p : Int) < (l.length : Int) * 8 := by omega
      have HBt := Lib.hid (bit_any R t p A l c wr Hrw.out hpp)
      have Hzb : Hid (s = 0 → (l.getD d 0).toNat = 0 → Z = p + 8 - t + zs (bitAt l) (p + 8) (8 * l.length - (p + 8))) := by
        intro h1 h2
        have h3 := zs_skip (bitAt l) 8 (8 * l.length - p) p (fun i hi => bitAt_zero l p i (by omega) hi (by rw [hd]; exact h2)) (by omega)
        rw [Hzp.out, h3, show 8 * l.length - p - 8 = 8 * l.length - (p + 8) from by omega]; omega
      have Hz1 : Hid (bitAt l p ≠ 1 → Z = p + 1 - t + zs (bitAt l) (p + 1) (8 * l.length - (p + 1))) := by
        intro h1
        have h3 := zs_skip (bitAt l) 1 (8 * l.length - p) p (fun i hi => by obtain rfl : i = 0 := by omega
                                                                            exact h1) (by omega)
        rw [Hzp.out, h3, show 8 * l.length - p - 1 = 8 * l.length - (p + 1) from by omega]; omega
      have Hz0 : Hid (bitAt l p = 1 → Z = p - t) := by
        intro h1
        rw [Hzp.out, show 8 * l.length - p = 8 * l.length - p - 1 + 1 from by omega, zs, if_pos h1]; rfl
      have hbl := bitAt_lt l p
      have hwp : IntKind.i64.wrap ((p : Int) + 8) = (p : Int) + 8 := by rw [IntKind.wrap_i64]; omega
      have hwq : IntKind.i64.wrap ((p : Int) + 1) = (p : Int) + 1 := by rw [IntKind.wrap_i64]; omega
      subst hA
      generalize (l.getD d 0).toNat = x at *
      generalize bitAt l p = B at *
      by_cases hs0 : s = 0
      · subst hs0
        have hps0 : (p : Int) % 8 = 0 := by omega
        clear hps
        by_cases hx0 : x = 0
        · have Hz := Lib.hid (Hzb.out rfl hx0)
          subst hx0
          go_wp2_with fail
          go_roundw
          case rel => exact ⟨p + 8, by omega, by omega, by go_num, Hz.out, Hb.out⟩
          case measure => simp [intOf] <;> omega
        · have hxi : ((x : Int) == 0) = false := by rw [beq_eq_false_iff_ne]; omega
          rcases (show B = 0 ∨ B = 1 by omega) with rfl | rfl
          · have Hz := Lib.hid (Hz1.out (by decide))
            go_wp2_with fail
            refine HBt.out.mono ?_
            rintro e w3 ⟨rfl, rfl⟩
            go_wp2_with fail
            go_roundw
            case rel => exact ⟨p + 1, by omega, by omega, by go_num, Hz.out, Hb.out⟩
            case measure => simp [intOf] <;> omega
          · have Hz := Lib.hid (Hz0.out rfl)
            have hz := Hz.out
            have hE1 : Hid (E = 0) := by show _ = _; rw [HE.out, if_pos (by omega)]
            have hV1 : Hid (((p : Int) - t) = V) := by show _ = _; rw [HV.out, if_pos (by omega)]; omega
            have hT1 : Hid (T = p + 1) := by show _ = _; rw [HT.out, if_pos (by omega)]; omega
            have hwt : IntKind.i64.wrap ((p : Int) - t) = (p : Int) - t := by rw [IntKind.wrap_i64]; omega
            have hbe := bnext hbn Hb.out
            have hge : ¬ (p : Int) ≥ (l.length : Int) * 8 := by omega
            clear hz
            go_wp2_with fail
            refine HBt.out.mono ?_
            rintro e w3 ⟨rfl, rfl⟩
            go_wp2_with fail
            try rw [Exit.noGoto_ret]
            go_ret2
            have fr : Fr (· = R) w (w3.setCell ⟨R, 0, none⟩ (.int .i64 ((p : Int) + 1))) := (Fr.of hbe).put 0 _
            have hrow := Hrw.out.row.set (p + 1)
            rw [Int.natCast_add] at hrow
            exact ⟨by rw [hE1.out, ← hV1.out]; rfl, by rw [hT1.out]; exact Hr.out.moved fr hrow (by omega), fr⟩
      · have hsi : ((s : Int) == 0) = false := by rw [beq_eq_false_iff_ne]; omega
        rcases (show B = 0 ∨ B = 1 by omega) with rfl | rfl
        · have Hz := Lib.hid (Hz1.out (by decide))
          go_wp2_with fail
          refine HBt.out.mono ?_
          rintro e w3 ⟨rfl, rfl⟩
          go_wp2_with fail
          go_roundw
          case rel => exact ⟨p + 1, by omega, by omega, by go_num, Hz.out, Hb.out⟩
          case measure => simp [intOf] <;> omega
        · have Hz := Lib.hid (Hz0.out rfl)
          have hz := Hz.out
          have hE1 : Hid (E = 0) := by show _ = _; rw [HE.out, if_pos (by omega)]
          have hV1 : Hid (((p : Int) - t) = V) := by show _ = _; rw [HV.out, if_pos (by omega)]; omega
          have hT1 : Hid (T = p + 1) := by show _ = _; rw [HT.out, if_pos (by omega)]; omega
          have hwt : IntKind.i64.wrap ((p : Int) - t) = (p : Int) - t := by rw [IntKind.wrap_i64]; omega
          have hbe := bnext hbn Hb.out
          have hge : ¬ (p : Int) ≥ (l.length : Int) * 8 := by omega
          clear hz
          go_wp2_with fail
          refine HBt.out.mono ?_
          rintro e w3 ⟨rfl, rfl⟩
          go_wp2_with fail
          try rw [Exit.noGoto_ret]
          go_ret2
          have fr : Fr (· = R) w (w3.setCell ⟨R, 0, none⟩ (.int .i64 ((p : Int) + 1))) := (Fr.of hbe).put 0 _
          have hrow := Hrw.out.row.set (p + 1)
          rw [Int.natCast_add] at hrow
          exact ⟨by rw [hE1.out, ← hV1.out]; rfl, by rw [hT1.out]; exact Hr.out.moved fr hrow (by omega), fr⟩
    · obtain rfl : p = 8 * l.length := by omega
      have hz : Z = 8 * l.length - t := by rw [Hzp.out, Nat.sub_self, zs, Nat.add_zero]
      have hE1 : Hid (E = 11) := by show _ = _; rw [HE.out, if_neg (by omega)]
      have hV1 : Hid (V = 0) := by show _ = _; rw [HV.out, if_neg (by omega)]
      have hT1 : Hid (T = t) := by show _ = _; rw [HT.out, if_neg (by omega)]
      have hbe := bnext hbn Hb.out
      have hge : ((8 * l.length : Nat) : Int) = (l.length : Int) * 8 := by omega
      clear hz
      go_wp2_with fail
      try rw [Exit.noGoto_ret]
      go_ret2
      exact ⟨by rw [hE1.out, hV1.out]; rfl, by rw [hT1.out]; exact Hrw.out, Fr.of hbe⟩
end Go.Proofs.Ytfncmgojeaeihaa
