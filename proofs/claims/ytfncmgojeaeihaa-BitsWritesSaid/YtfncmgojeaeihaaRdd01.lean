/-
  Reader: Align.
-/
import Derived.Test.YtfncmgojeaeihaaRdc01
namespace Go.Proofs.Ytfncmgojeaeihaa
open Go.RowKit

def alN (t : Nat) : Nat := (8 - t % 8) % 8
def alE (l : List UInt8) (t : Nat) : Int := if sg (bitAt l) t (alN t) = 0 then 0 else 12
def alV (l : List UInt8) (t : Nat) : Nat := if sg (bitAt l) t (alN t) = 0 then alN t else 0
def alT (l : List UInt8) (t : Nat) : Nat := if sg (bitAt l) t (alN t) = 0 then t + alN t else t

theorem u8_and_nat (a b : Nat) (ha : a < 256) (hb : b < 256) : bits .and .u8 (a : Int) (b : Int) = ((a &&& b : Nat) : Int) := by
  have hx : a &&& b < 2 ^ 8 := Nat.and_lt_two_pow _ (by omega)
  show IntKind.u8.wrap ((BitVec.ofInt 8 (a : Int) &&& BitVec.ofInt 8 (b : Int)).toNat : Int) = _
  rw [BitVec.toNat_and, ofInt_u8 a ha, ofInt_u8 b hb]
  simp only [IntKind.wrap, IntKind.bits, IntKind.signed]
  simp
  omega
theorem low_and (x n : Nat) (hx : x < 256) (hn : n < 8) : bits .and .u8 (x : Int) (((2 : Int) ^ n - 1) % 256) = ((x % 2 ^ n : Nat) : Int) := by
  obtain ⟨h1, h2⟩ := pow8 n (by omega)
  have h3 : 2 ^ n ≤ 2 ^ 7 := Nat.pow_le_pow_right (by omega) (by omega)
  have e1 : ((2 : Int) ^ n) = ((2 ^ n : Nat) : Int) := by simp
  have e7 : x &&& (2 ^ n - 1) = x % 2 ^ n := Nat.and_two_pow_sub_one_eq_mod _ _
  have e2 : (((2 ^ n : Nat) : Int) - 1) % 256 = ((2 ^ n - 1 : Nat) : Int) := by
    clear e1 e7
    generalize 2 ^ n = K at *
    omega
  rw [e1, e2, u8_and_nat x (2 ^ n - 1) hx (by omega), e7]
set_option maxRecDepth 100000 in
set_option maxHeartbeats 2000000 in
theorem Align_any (R t : Nat) (A : Option Addr) (l : List UInt8) (c : Nat) (w : World) (hr : Rdr w R t A l c) :
    Calls Try.prog 31 #[.pointer (some ⟨R, 0, none⟩)] w fun e w' => e = .returned (.tuple #[.int .i64 (alV l t : Nat), .int .i64 (alE l t)]) ∧ Rdr w' R (alT l t) A l c ∧ Fr (· = R) w w' := by
  have HE : Hid (alE l t = if sg (bitAt l) t (alN t) = 0 then 0 else 12) := rfl
  have HV : Hid (alV l t = if sg (bitAt l) t (alN t) = 0 then alN t else 0) := rfl
  have HT : Hid (alT l t = if sg (bitAt l) t (alN t) = 0 then t + alN t else t) := rfl
  generalize alE l t = E at *
  generalize alV l t = V at *
  generalize alT l t = T at *
  have Hr := Lib.hid hr
  have hlen := hr.len
  have hle := hr.le
  have hr0 := hr.row.c0
  have HRe := Lib.hid (rest_any t (by omega) w)
  have Hn : Hid ((8 - t % 8) % 8 = alN t) := rfl
  have hn8 : alN t < 8 := Nat.mod_lt _ (by omega)
  have hnt : (t + alN t) % 8 = 0 := by unfold alN; omega
  have Hsb := Lib.hid (sg_byte l t (alN t) (by unfold alN; omega))
  have Hs0 : Hid (alN t = 0 → sg (bitAt l) t (alN t) = 0) := fun h => by rw [h]; rfl
  have Hd : Hid (0 < alN t → t / 8 < l.length ∧ 8 - t % 8 - alN t = 0) := by intro h; unfold alN at *; omega
  rw [Hn.out] at HRe
  clear hr
  generalize sg (bitAt l) t (alN t) = S at *
  generalize alN t = n at *
  rcases Nat.eq_zero_or_pos n with rfl | hn0
  · have hS := Hs0.out rfl
    have hE1 : Hid (E = 0) := by show _ = _; rw [HE.out, if_pos hS]
    have hV1 : Hid (V = 0) := by show _ = _; rw [HV.out, if_pos hS]
    have hT1 : Hid (T = t) := by show _ = _; rw [HT.out, if_pos hS]; rfl
    clear hS
    have hfz := Hr.out.row.fz
    have hwt : IntKind.i64.wrap (t : Int) = t := by rw [IntKind.wrap_i64]; omega
    go_enter Try.func31, Try.ntmps31
    go_wp2_with fail
    refine HRe.out.mono ?_
    rintro e w1 ⟨rfl, hb⟩
    have Hr1 := Lib.hid (Hr.out.below hb)
    have h0 := Hr1.out.row.c0
    have hf1 := Hr1.out.row.fz
    clear hr0 hfz
    go_wp2_with fail
    go_quiet (fail)
    go_wp2_with fail
    go_ret2
    have fr : Fr (· = R) w ((w1.drewN nq).setCell ⟨R, 0, none⟩ (.int .i64 t)) := (Fr.of (below_drewN hb nq)).put 0 _
    exact ⟨by rw [hE1.out, hV1.out]; rfl, by rw [hT1.out]; exact Hr.out.moved fr ((Hr1.out.row.drewN nq).set t) hle, fr⟩
  · obtain ⟨hd, hs⟩ := Hd.out hn0
    rw [hs, Nat.pow_zero, Nat.div_one] at Hsb
    obtain ⟨d, hdd⟩ : ∃ d, t / 8 = d := ⟨_, rfl⟩
    rw [hdd] at hd Hsb
    have hpd : (t : Int) / 8 = (d : Int) := by omega
    have hd0 : (d : Int) < l.length := by omega
    have hwt : IntKind.i64.wrap ((t : Int) + n) = (t : Int) + n := by rw [IntKind.wrap_i64]; omega
    have hni : (n : Int) > 0 := by omega
    have hx := (l.getD d 0).toNat_lt
    have HRd := Lib.hid (fun (W : World) (hW : Below w.heap.size w W) => (Hr.out.rd.below hW) d (.int .u8 (l.getD d 0).toNat) (by rw [bv_get l d hd]; simp [List.getD_eq_getElem?_getD, List.getElem?_eq_getElem hd]))
    have hla := low_and (l.getD d 0).toNat n hx hn8
    rw [← Hsb.out] at hla
    generalize (l.getD d 0).toNat = x at *
    by_cases hS : S = 0
    · have hE1 : Hid (E = 0) := by show _ = _; rw [HE.out, if_pos hS]
      have hV1 : Hid (V = n) := by show _ = _; rw [HV.out, if_pos hS]
      have hT1 : Hid (T = t + n) := by show _ = _; rw [HT.out, if_pos hS]
      have hc0 : ((S : Int) != 0) = false := by rw [hS]; rfl
      clear hS
      go_enter Try.func31, Try.ntmps31
      go_wp2_with fail
      refine HRe.out.mono ?_
      rintro e w1 ⟨rfl, hb⟩
      have Hr1 := Lib.hid (Hr.out.below hb)
      obtain ⟨b, o, hA, hc⟩ := HRd.out _ hb
      have h0 := Hr1.out.row.c0
      have h1 := Hr1.out.row.c1
      have hf1 := Hr1.out.row.fz
      subst hA
      clear hr0
      go_wp2_with fail
      go_quiet (fail)
      go_wp2_with fail
      go_ret2
      have fr : Fr (· = R) w ((w1.drewN nq).setCell ⟨R, 0, none⟩ (.int .i64 ((t : Int) + n))) := (Fr.of (below_drewN hb nq)).put 0 _
      have hrow := (Hr1.out.row.drewN nq).set (t + n)
      rw [Int.natCast_add] at hrow
      exact ⟨by rw [hE1.out, hV1.out]; rfl, by rw [hT1.out]; exact Hr.out.moved fr hrow (by omega), fr⟩
    · have hE1 : Hid (E = 12) := by show _ = _; rw [HE.out, if_neg hS]
      have hV1 : Hid (V = 0) := by show _ = _; rw [HV.out, if_neg hS]
      have hT1 : Hid (T = t) := by show _ = _; rw [HT.out, if_neg hS]
      have hc0 : ((S : Int) != 0) = true := by rw [bne_iff_ne]; omega
      clear hS
      go_enter Try.func31, Try.ntmps31
      go_wp2_with fail
      refine HRe.out.mono ?_
      rintro e w1 ⟨rfl, hb⟩
      have Hr1 := Lib.hid (Hr.out.below hb)
      obtain ⟨b, o, hA, hc⟩ := HRd.out _ hb
      have h0 := Hr1.out.row.c0
      have h1 := Hr1.out.row.c1
      have hf1 := Hr1.out.row.fz
      subst hA
      clear hr0
      go_wp2_with fail
      go_quiet (fail)
      go_wp2_with fail
      go_ret2
      exact ⟨by rw [hE1.out, hV1.out]; rfl, by rw [hT1.out]; exact Hr1.out.below (below_drewN (Below.refl _ _) nq), Fr.of (below_drewN hb nq)⟩
end Go.Proofs.Ytfncmgojeaeihaa
