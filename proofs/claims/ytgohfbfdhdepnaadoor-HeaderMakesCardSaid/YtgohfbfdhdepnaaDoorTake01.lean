/-
  Reader.Take.
-/
import Derived.Test.YtgohfbfdhdepnaaDoorRd01
namespace Go.Proofs.YtgohfbfdhdepnaaDoor
open Go.RowKit

def tkE (n : Int) (left : Nat) : Int := if n < 0 ∨ 48 < n then 1 else if (left : Int) < n then 11 else 0
def tkV (l : List UInt8) (t : Nat) (n : Int) : Nat := if tkE n (8 * l.length - t) = 0 then sg (bitAt l) t n.toNat else 0
def tkT (l : List UInt8) (t : Nat) (n : Int) : Nat := if tkE n (8 * l.length - t) = 0 then t + n.toNat else t

theorem pow8 (k : Nat) (hk : k ≤ 8) : 1 ≤ 2 ^ k ∧ 2 ^ k ≤ 256 := by
  match k, hk with
  | 0, _ => decide
  | 1, _ => decide
  | 2, _ => decide
  | 3, _ => decide
  | 4, _ => decide
  | 5, _ => decide
  | 6, _ => decide
  | 7, _ => decide
  | 8, _ => decide
  | k + 9, h => omega
theorem wrap_nat (K : Nat) (h : K < 9223372036854775808) : wrap64 ((K : Nat) : Int) = K := by unfold wrap64; omega
theorem wrap_less (K : Nat) (h1 : 1 ≤ K) (h : K < 9223372036854775808) : wrap64 ((K : Int) - 1) = ((K - 1 : Nat) : Int) := by unfold wrap64; omega
/-- A step of Take: the bits of one byte behind what was read. -/
theorem take_step (V x r k j : Nat) (hV : V < 2 ^ j) (hj : j + k ≤ 48) (hk : k ≤ 8) (hx : x < 256) :
    bits .or .i64 (wrap64 ((V : Int) * 2 ^ k)) (bits .and .i64 ((x : Int) / 2 ^ r) (wrap64 (wrap64 (2 ^ k) - 1))) = ((V * 2 ^ k + x / 2 ^ r % 2 ^ k : Nat) : Int) := by
  obtain ⟨h1, h2⟩ := pow8 k hk
  have h3 : V * 2 ^ k < 281474976710656 := by
    have h4 : V * 2 ^ k < 2 ^ j * 2 ^ k := Nat.mul_lt_mul_of_pos_right hV (by omega)
    rw [← Nat.pow_add] at h4
    exact Nat.lt_of_lt_of_le h4 (Nat.pow_le_pow_right (n := 2) (by omega) hj)
  have e1 : ((2 : Int) ^ k) = ((2 ^ k : Nat) : Int) := by simp
  have e2 : ((2 : Int) ^ r) = ((2 ^ r : Nat) : Int) := by simp
  have e3 : ((x : Int) / ((2 ^ r : Nat) : Int)) = ((x / 2 ^ r : Nat) : Int) := by simp
  have e4 : (V : Int) * ((2 ^ k : Nat) : Int) = ((V * 2 ^ k : Nat) : Int) := by simp
  have h6 : x / 2 ^ r ≤ x := Nat.div_le_self _ _
  have h5 := Nat.mod_lt (x / 2 ^ r) (show 2 ^ k > 0 by omega)
  have e7 : (x / 2 ^ r) &&& (2 ^ k - 1) = x / 2 ^ r % 2 ^ k := Nat.and_two_pow_sub_one_eq_mod _ _
  have e8 : V * 2 ^ k ||| x / 2 ^ r % 2 ^ k = V * 2 ^ k + x / 2 ^ r % 2 ^ k := by
    rw [Nat.mul_comm]; exact (Nat.two_pow_add_eq_or_of_lt h5 V).symm
  rw [e1, e2, e3, e4]
  clear e1 e2 e3 e4 hV
  generalize 2 ^ k = K at *
  generalize x / 2 ^ r = y at *
  generalize hM : V * K = M at *
  have b1 : K - 1 < 9223372036854775808 := by clear e7 e8 h5 hM; omega
  have b2 : y % K < 9223372036854775808 := Nat.lt_trans h5 (by clear e7 e8 h5 hM; omega)
  have b3 : y < 9223372036854775808 := by clear e7 e8 h5 hM; omega
  have b4 : M < 9223372036854775808 := by clear e7 e8 h5 hM; omega
  rw [wrap_nat M b4, wrap_nat K (by clear e7 e8 h5 hM; omega), wrap_less K h1 (by clear e7 e8 h5 hM; omega), i64_and_nat y (K - 1) b3 b1, e7, i64_or_nat M (y % K) b4 b2, e8]
theorem RdrAt.drewN {w : World} {R t : Nat} {A : Option Addr} {n c : Nat} (h : RdrAt w R t A n c) (q : Nat) : RdrAt (w.drewN q) R t A n c :=
  (Fr.of (S := fun _ => False) (below_drewN (Below.refl _ _) q)).row h id

set_option maxHeartbeats 400000 in
theorem Take_no (R t : Nat) (A : Option Addr) (l : List UInt8) (c : Nat) (n : Int) (w : World) (hr : Rdr w R t A l c) (hE : tkE n (8 * l.length - t) ≠ 0) :
    Calls Tryd.prog 62 #[.pointer (some ⟨R, 0, none⟩), .int .i64 n] w fun e w' => e = .returned (.tuple #[.int .i64 0, .int .i64 (tkE n (8 * l.length - t))]) ∧ Below w.heap.size w w' := by
  have hL := Lib.hid (Left_any R t A l.length c w hr.row hr.le hr.len)
  have hle := hr.le
  by_cases h1 : n < 0
  · have HE : Hid (tkE n (8 * l.length - t) = 1) := if_pos (.inl h1)
    rw [HE.out]
    go_enter Tryd.func62, Tryd.ntmps62
    go_wp2_with fail
    go_ret2
    exact ⟨rfl, Below.refl _ _⟩
  · by_cases h2 : n > 48
    · have HE : Hid (tkE n (8 * l.length - t) = 1) := if_pos (.inr h2)
      rw [HE.out]
      go_enter Tryd.func62, Tryd.ntmps62
      go_wp2_with fail
      go_ret2
      exact ⟨rfl, Below.refl _ _⟩
    · have HE : Hid (tkE n (8 * l.length - t) = if ((8 * l.length - t : Nat) : Int) < n then 11 else 0) := if_neg (by omega)
      have h3 : n > 8 * (l.length : Int) - t := by
        rw [HE.out] at hE
        split at hE
        · omega
        · exact absurd rfl hE
      have HE2 : Hid (tkE n (8 * l.length - t) = 11) := by show _ = _; rw [HE.out, if_pos (by omega)]
      rw [HE2.out]
      clear hE
      generalize l.length = m at *
      go_enter Tryd.func62, Tryd.ntmps62
      go_wp2_with fail
      refine hL.out.mono ?_
      rintro e w1 ⟨rfl, hb⟩
      go_wp2_with fail
      go_ret2
      exact ⟨rfl, hb⟩

set_option maxRecDepth 100000 in
set_option maxHeartbeats 2000000 in
theorem Take_ok (R t : Nat) (A : Option Addr) (l : List UInt8) (c : Nat) (n : Nat) (w : World) (hr : Rdr w R t A l c) (hn : n ≤ 48) (hnl : t + n ≤ 8 * l.length) :
    Calls Tryd.prog 62 #[.pointer (some ⟨R, 0, none⟩), .int .i64 n] w fun e w' => e = .returned (.tuple #[.int .i64 (sg (bitAt l) t n : Nat), .int .i64 0]) ∧ Rdr w' R (t + n) A l c ∧ Fr (· = R) w w' := by
  have hL := Lib.hid (Left_any R t A l.length c w hr.row hr.le hr.len)
  have Hr := Lib.hid hr
  have hlen := hr.len
  have h1 : ¬ (n : Int) < 0 := by omega
  have h2 : ¬ (n : Int) > 48 := by omega
  have h3 : ¬ (n : Int) > 8 * (l.length : Int) - t := by omega
  have Hsg : Hid (∀ p k, p % 8 + k ≤ 8 → sg (bitAt l) p k = (l.getD (p / 8) 0).toNat / 2 ^ (8 - p % 8 - k) % 2 ^ k) := sg_byte l
  have Hlt : Hid (∀ j, sg (bitAt l) t j < 2 ^ j) := sg_lt (bitAt_lt l) t
  have Hadd : Hid (∀ a b, sg (bitAt l) t (a + b) = sg (bitAt l) t a * 2 ^ b + sg (bitAt l) (t + a) b) := sg_add (bitAt l) t
  have H0 : Hid (sg (bitAt l) t 0 = 0) := rfl
  clear hr
  generalize hf : bitAt l = f at *
  clear hf
  go_enter Tryd.func62, Tryd.ntmps62
  go_wp2_with fail
  refine hL.out.mono ?_
  rintro e w1 ⟨rfl, hb⟩
  have Hr1 := Lib.hid (Hr.out.below hb)
  clear hL
  go_wp2_with fail
  clear h1 h2 h3
  go_loopw [1, 6] (fun nv vv wr => ∃ (j q p : Nat), nv = .int .i64 (q : Int) ∧ vv = .int .i64 (sg f t j : Nat) ∧ Hid (q + j = n) ∧ Hid (t + j = p) ∧ Hid (RdrAt wr R p A l.length c) ∧ Hid (Fr (· = R) w1 wr)) (fun nv _ _ => (intOf nv).toNat)
  case atStart => exact ⟨0, n, t, rfl, by rw [H0.out]; rfl, rfl, rfl, Hr1.out.row, Fr.refl _ _⟩
  case round =>
    obtain ⟨j, q, p, rfl, rfl, Hq, Hp, Hrow, Hfr⟩ := hrel
    have h0 := Hrow.out.c0
    have h1 := Hrow.out.c1
    have hfz := Hrow.out.fz
    by_cases hqq : 0 < q
    · have hpl : p < 8 * l.length := by have := Hp.out; have := Hq.out; omega
      obtain ⟨d, hd⟩ : ∃ d, p / 8 = d := ⟨_, rfl⟩
      obtain ⟨s, hs⟩ : ∃ s, p % 8 = s := ⟨_, rfl⟩
      have hdl : d < l.length := by omega
      have hs8 : s < 8 := by omega
      obtain ⟨b, o, hA, hc⟩ := (Hr1.out.rd.fr Hfr.out (Rdr.apart Hr1.out.row Hr1.out.rd)) d (.int .u8 (l.getD d 0).toNat) (by rw [bv_get l d hdl]; simp [List.getD_eq_getElem?_getD, List.getElem?_eq_getElem hdl])
      have hx := (l.getD d 0).toNat_lt
      have hpd : (p : Int) / 8 = (d : Int) := by omega
      have hps : (p : Int) % 8 = (s : Int) := by omega
      have hj48 : j + q ≤ 48 := by have := Hq.out; omega
      have hVl := Hlt.out j
      have hd0 : (d : Int) < l.length := by omega
      subst hA
      have Hsp : Hid (∀ k, s + k ≤ 8 → sg f t (j + k) = sg f t j * 2 ^ k + (l.getD d 0).toNat / 2 ^ (8 - s - k) % 2 ^ k) := by
        intro k hk
        rw [Hadd.out, Hp.out, Hsg.out p k (by omega), hd, hs]
      obtain ⟨V, hV⟩ : ∃ V, sg f t j = V := ⟨_, rfl⟩
      rw [hV] at hVl Hsp ⊢
      clear hV
      generalize (l.getD d 0).toNat = x at *
      by_cases hq8 : q ≤ 8 - s
      · obtain ⟨r, hr⟩ : ∃ r, 8 - s - q = r := ⟨_, rfl⟩
        have hr8 : (8 : Int) - s - q = (r : Int) := by omega
        have hq9 : (q : Int) ≤ 8 - s := by omega
        have hst := take_step V x r q j hVl hj48 (by omega) hx
        have Hst : Hid (V * 2 ^ q + x / 2 ^ r % 2 ^ q = sg f t (j + q)) := by show _ = _; rw [Hsp.out q (by omega), hr]
        rw [Hst.out] at hst
        have hwp : IntKind.i64.wrap ((p : Int) + q) = (p : Int) + q := by rw [IntKind.wrap_i64]; omega
        go_upto_region 11 with fail
        go_quiet (fail)
        go_wp2_with fail
        go_roundw
        case rel => exact ⟨j + q, 0, p + q, by simp, rfl, by show _ = _; have := Hq.out; omega, by show _ = _; have := Hp.out; omega, by have h := (Hrow.out.drewN nq).set (p + q); rw [Int.natCast_add] at h; exact h, (Hfr.out.next (below_drewN (Below.refl _ _) _)).put 0 _⟩
        case measure => simp [intOf] <;> omega
      · obtain ⟨k, hk⟩ : ∃ k, 8 - s = k := ⟨_, rfl⟩
        have hk8 : (8 : Int) - s = (k : Int) := by omega
        have hq9 : ¬ (q : Int) < k := by omega
        have hq10 : (k : Int) ≤ q := by omega
        have hst := take_step V x 0 k j hVl (by omega) (by omega) hx
        rw [Int.pow_zero, Int.ediv_one] at hst
        have Hst : Hid (V * 2 ^ k + x / 2 ^ 0 % 2 ^ k = sg f t (j + k)) := by show _ = _; rw [Hsp.out k (by omega), show 8 - s - k = 0 from by omega]
        rw [Hst.out] at hst
        have hwp : IntKind.i64.wrap ((p : Int) + k) = (p : Int) + k := by rw [IntKind.wrap_i64]; omega
        go_upto_region 11 with fail
        go_quiet (fail)
        go_wp2_with fail
        go_roundw
        case rel => exact ⟨j + k, q - k, p + k, by go_num, rfl, by show _ = _; have := Hq.out; omega, by show _ = _; have := Hp.out; omega, by have h := (Hrow.out.drewN nq).set (p + k); rw [Int.natCast_add] at h; exact h, (Hfr.out.next (below_drewN (Below.refl _ _) _)).put 0 _⟩
        case measure => simp [intOf] <;> omega
    · obtain rfl : q = 0 := by omega
      have hj : j = n := by have := Hq.out; omega
      subst hj
      go_wp2_with fail
      go_ret2
      have fr : Fr (· = R) w wr := (Fr.of hb).trans Hfr.out
      exact ⟨rfl, Hr.out.moved fr (by have := Hrow.out; rw [← Hp.out] at this; exact this) hnl, fr⟩
end Go.Proofs.YtgohfbfdhdepnaaDoor
