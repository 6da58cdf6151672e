/-
  Reader: Take whole, Signed, bit, Unary, Align.
-/
import Derived.Test.YtfncmgojeaeihaaTake01
namespace Go.Proofs.Ytfncmgojeaeihaa
open Go.RowKit

theorem Take_any (R t : Nat) (A : Option Addr) (l : List UInt8) (c : Nat) (n : Int) (w : World) (hr : Rdr w R t A l c) :
    Calls Try.prog 13 #[.pointer (some ⟨R, 0, none⟩), .int .i64 n] w fun e w' => e = .returned (.tuple #[.int .i64 (tkV l t n : Nat), .int .i64 (tkE n (8 * l.length - t))]) ∧ Rdr w' R (tkT l t n) A l c ∧ Fr (· = R) w w' := by
  by_cases hE : tkE n (8 * l.length - t) = 0
  · have hn : 0 ≤ n ∧ n ≤ 48 ∧ n ≤ 8 * l.length - t := by
      have hle := hr.le
      unfold tkE at hE
      split at hE
      · cases hE
      · split at hE
        · cases hE
        · omega
    obtain ⟨m, rfl⟩ : ∃ m : Nat, n = m := ⟨n.toNat, by omega⟩
    have hle := hr.le
    rw [tkV, tkT, if_pos hE, if_pos hE, hE, Int.toNat_natCast]
    exact Take_ok R t A l c m w hr (by omega) (by omega)
  · refine (Take_no R t A l c n w hr hE).mono ?_
    rintro e w' ⟨rfl, hb⟩
    rw [tkV, tkT, if_neg hE, if_neg hE]
    exact ⟨rfl, hr.below hb, Fr.of hb⟩

/-- What Signed reads. -/
def sgS (f : Nat → Nat) (t n : Nat) : Int := if 0 < n ∧ sg f t n / 2 ^ (n - 1) = 1 then (sg f t n : Int) - 2 ^ n else sg f t n
def sdV (l : List UInt8) (t : Nat) (n : Int) : Int := if tkE n (8 * l.length - t) = 0 then sgS (bitAt l) t n.toNat else 0
theorem pow48 (n : Nat) (h : n ≤ 48) : (1 : Int) ≤ 2 ^ n ∧ (2 : Int) ^ n ≤ 281474976710656 := by
  have h1 : (2 : Nat) ^ n ≤ 2 ^ 48 := Nat.pow_le_pow_right (by omega) h
  have h2 : 0 < (2 : Nat) ^ n := Nat.pow_pos (by omega)
  have e : ((2 : Int) ^ n) = ((2 ^ n : Nat) : Int) := by simp
  rw [e]
  have h3 : (2 : Nat) ^ 48 = 281474976710656 := by decide
  omega

set_option maxHeartbeats 800000 in
theorem Signed_any (R t : Nat) (A : Option Addr) (l : List UInt8) (c : Nat) (n : Int) (w : World) (hr : Rdr w R t A l c) :
    Calls Try.prog 20 #[.pointer (some ⟨R, 0, none⟩), .int .i64 n] w fun e w' => e = .returned (.tuple #[.int .i64 (sdV l t n), .int .i64 (tkE n (8 * l.length - t))]) ∧ Rdr w' R (tkT l t n) A l c ∧ Fr (· = R) w w' := by
  have hT := Lib.hid (Take_any R t A l c n w hr)
  by_cases hE : tkE n (8 * l.length - t) = 0
  · have hn : 0 ≤ n ∧ n ≤ 48 := by
      unfold tkE at hE
      split at hE
      · cases hE
      · omega
    obtain ⟨m, rfl⟩ : ∃ m : Nat, n = m := ⟨n.toNat, by omega⟩
    have hm : m ≤ 48 := by omega
    rw [sdV, if_pos hE]
    rw [hE] at hT ⊢
    have Hv : Hid (tkV l t m = sg (bitAt l) t m) := by show _ = _; rw [tkV, if_pos hE, Int.toNat_natCast]
    have Hs : Hid (sgS (bitAt l) t (m : Int).toNat = if 0 < m ∧ sg (bitAt l) t m / 2 ^ (m - 1) = 1 then (sg (bitAt l) t m : Int) - 2 ^ m else sg (bitAt l) t m) := rfl
    have hlt := sg_lt (bitAt_lt l) t m
    have hpw := pow48 m hm
    have hle : (sg (bitAt l) t m : Int) < 2 ^ m := by
      have e : ((2 : Int) ^ m) = ((2 ^ m : Nat) : Int) := by simp
      rw [e]; omega
    rw [Hv.out] at hT
    generalize sgS (bitAt l) t (m : Int).toNat = S at *
    generalize sg (bitAt l) t m = V at *
    clear hE hn hlt Hv
    rcases Nat.eq_zero_or_pos m with rfl | hm0
    · have Hs2 : Hid (S = V) := by show _ = _; rw [Hs.out]; exact if_neg (fun h => by omega)
      go_enter Try.func20, Try.ntmps20
      go_wp2_with fail
      refine hT.out.mono ?_
      rintro e w1 ⟨rfl, hr1, hf⟩
      go_wp2_with fail
      go_ret2
      exact ⟨by rw [Hs2.out]; rfl, hr1, hf⟩
    · obtain ⟨k, rfl⟩ : ∃ k, m = k + 1 := ⟨m - 1, by omega⟩
      have hk1 : ((k + 1 : Nat) : Int) - 1 = k := by omega
      have hk0 : ((k + 1 : Nat) : Int) > 0 := by omega
      have hk2 : ¬ ((k + 1 : Nat) : Int) < 0 := by omega
      obtain ⟨q, hq⟩ : ∃ q, k + 1 = q := ⟨_, rfl⟩
      have e9 : k + 1 - 1 = k := by omega
      rw [e9] at Hs
      rw [hq] at Hs hT hk1 hk0 hk2 hpw hle hm ⊢
      have Hq := Lib.hid hq
      clear hq e9 hm0
      have ed : ((V : Int) / 2 ^ k) = ((V / 2 ^ k : Nat) : Int) := by simp
      by_cases hb : V / 2 ^ k = 1
      · have hd : ((V : Int) / 2 ^ k == 1) = true := by rw [ed, hb]; rfl
        have Hs2 : Hid (S = (V : Int) - 2 ^ q) := by show _ = _; rw [Hs.out, if_pos ⟨by have := Hq.out; omega, hb⟩]
        have hw1 : wrap64 ((2 : Int) ^ q) = 2 ^ q := by unfold wrap64; omega
        have hw2 : IntKind.i64.wrap ((V : Int) - 2 ^ q) = (V : Int) - 2 ^ q := by rw [IntKind.wrap_i64]; omega
        clear hb ed Hs
        go_enter Try.func20, Try.ntmps20
        go_wp2_with fail
        refine hT.out.mono ?_
        rintro e w1 ⟨rfl, hr1, hf⟩
        go_wp2_with fail
        go_ret2
        exact ⟨by rw [Hs2.out]; rfl, hr1, hf⟩
      · have hd : ((V : Int) / 2 ^ k == 1) = false := by rw [ed, beq_eq_false_iff_ne]; omega
        have Hs2 : Hid (S = V) := by show _ = _; rw [Hs.out, if_neg (fun h => hb h.2)]
        clear hb ed Hs
        go_enter Try.func20, Try.ntmps20
        go_wp2_with fail
        refine hT.out.mono ?_
        rintro e w1 ⟨rfl, hr1, hf⟩
        go_wp2_with fail
        go_ret2
        exact ⟨by rw [Hs2.out]; rfl, hr1, hf⟩
  · have Hv : Hid (tkV l t n = 0) := if_neg hE
    have Hs2 : Hid (sdV l t n = 0) := if_neg hE
    have hd : (tkE n (8 * l.length - t) == 0) = false := by rw [beq_eq_false_iff_ne]; exact hE
    rw [Hv.out] at hT
    clear Hv hE
    generalize tkE n (8 * l.length - t) = E at *
    go_enter Try.func20, Try.ntmps20
    go_wp2_with fail
    refine hT.out.mono ?_
    rintro e w1 ⟨rfl, hr1, hf⟩
    go_wp2_with fail
    go_ret2
    exact ⟨by rw [Hs2.out]; rfl, hr1, hf⟩

set_option maxHeartbeats 400000 in
theorem bit_any (R t p : Nat) (A : Option Addr) (l : List UInt8) (c : Nat) (w : World) (hr : Rdr w R t A l c) (hp : p < 8 * l.length) :
    Calls Try.prog 40 #[.pointer (some ⟨R, 0, none⟩), .int .i64 p] w fun e w' => e = .returned (.int .i64 (bitAt l p : Nat)) ∧ w' = w := by
  have h1 := hr.row.c1
  have hlen := hr.len
  obtain ⟨d, hd⟩ : ∃ d, p / 8 = d := ⟨_, rfl⟩
  obtain ⟨s, hs⟩ : ∃ s, p % 8 = s := ⟨_, rfl⟩
  have hdl : d < l.length := by omega
  have hs8 : s < 8 := by omega
  obtain ⟨b, o, hA, hc⟩ := hr.rd d (.int .u8 (l.getD d 0).toNat) (by rw [bv_get l d hdl]; simp [List.getD_eq_getElem?_getD, List.getElem?_eq_getElem hdl])
  have hx := (l.getD d 0).toNat_lt
  have HB : Hid (bitAt l p = (l.getD d 0).toNat / 2 ^ (7 - s) % 2) := by show _ = _; rw [bitAt, hd, hs]
  have hpd : (p : Int) / 8 = (d : Int) := by omega
  have hps : (p : Int) % 8 = (s : Int) := by omega
  obtain ⟨r, hr7⟩ : ∃ r, 7 - s = r := ⟨_, rfl⟩
  have hr8 : (7 : Int) - s = (r : Int) := by omega
  have hd0 : (d : Int) < l.length := by omega
  rw [hr7] at HB
  subst hA
  clear hr
  generalize (l.getD d 0).toNat = x at *
  generalize bitAt l p = B at *
  have h6 : x / 2 ^ r ≤ x := Nat.div_le_self _ _
  have e2 : ((x : Int) / 2 ^ r) = ((x / 2 ^ r : Nat) : Int) := by simp
  have ha := i64_and_nat (x / 2 ^ r) 1 (by omega) (by omega)
  rw [Nat.and_one_is_mod, ← HB.out] at ha
  have ha2 : bits .and .i64 (wrap64 ((x : Int) / 2 ^ r)) 1 = (B : Int) := by rw [e2, wrap_nat _ (by omega)]; exact ha
  clear h6 e2 ha
  go_enter Try.func40, Try.ntmps40
  go_wp2_with fail
  go_ret
  exact ⟨rfl, rfl⟩
end Go.Proofs.Ytfncmgojeaeihaa
