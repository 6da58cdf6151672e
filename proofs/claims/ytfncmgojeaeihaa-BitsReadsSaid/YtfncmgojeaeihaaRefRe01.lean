/-
  jetsamref01.Reader: Unary, Align, Seek.
-/
import Derived.Test.YtfncmgojeaeihaaRefRd01
namespace Go.Proofs.Ytfncmgojeaeihaa
open Go.RowKit

def bf (bs : List Nat) (i : Nat) : Nat := bs.getD i 0
def ruE (bs : List Nat) (t : Nat) : Int := if zs (bf bs) t (bs.length - t) < bs.length - t then 0 else 11
def ruV (bs : List Nat) (t : Nat) : Nat := if zs (bf bs) t (bs.length - t) < bs.length - t then zs (bf bs) t (bs.length - t) else 0
def ruT (bs : List Nat) (t : Nat) : Nat := if zs (bf bs) t (bs.length - t) < bs.length - t then t + zs (bf bs) t (bs.length - t) + 1 else t

set_option maxHeartbeats 1000000 in
theorem RUnary_any (X t : Nat) (A : Option Addr) (bs : List Nat) (c : Nat) (w : World) (hr : RRdr w X t A bs c) :
    Calls Try.prog 35 #[.pointer (some ⟨X, 0, none⟩)] w fun e w' => e = .returned (.tuple #[.int .i64 (ruV bs t : Nat), .int .i64 (ruE bs t)]) ∧ RRdr w' X (ruT bs t) A bs c ∧ Fr (· = X) w w' := by
  have hz := hr.fz 1
  have h0 := hr.c0
  have h1 := hr.c1
  have hfew := hr.few
  have hcap := hr.cap
  have hle := hr.le
  have HR := Lib.hid hr
  have Hrd := Lib.hid hr.rd
  clear hr
  have HV : Hid (∀ j, j < bs.length - t → (∀ i, i < j → bf bs (t + i) ≠ 1) → bf bs (t + j) = 1 → ruE bs t = 0 ∧ ruV bs t = j ∧ ruT bs t = t + j + 1) := by
    intro j hj h1 h2
    have h3 := zs_skip (bf bs) j (bs.length - t) t h1 (by omega)
    rw [show bs.length - t - j = bs.length - t - j - 1 + 1 from by omega, zs, if_pos h2] at h3
    rw [ruE, ruV, ruT, h3, if_pos (by omega), if_pos (by omega), if_pos (by omega)]
    exact ⟨rfl, rfl, rfl⟩
  have HN : Hid ((∀ i, i < bs.length - t → bf bs (t + i) ≠ 1) → ruE bs t = 11 ∧ ruV bs t = 0 ∧ ruT bs t = t) := by
    intro h1
    have h3 := zs_skip (bf bs) (bs.length - t) (bs.length - t) t h1 (Nat.le_refl _)
    rw [ruE, ruV, ruT, h3, if_neg (by omega), if_neg (by omega), if_neg (by omega)]
    exact ⟨rfl, rfl, rfl⟩
  have HG := Lib.hid (fun j (h : j < bs.length) => Hrd.out j _ (iv8_get bs j h))
  generalize ruV bs t = V at *
  generalize ruE bs t = E at *
  generalize ruT bs t = T at *
  go_enter Try.func35, Try.ntmps35
  go_wp2_with fail
  go_loop [4] (fun iv => ∃ j p : Nat, p ≤ bs.length ∧ t + j = p ∧ iv = .int .i64 (p : Int) ∧ Hid (∀ i, i < j → bf bs (t + i) ≠ 1)) (fun iv => bs.length - (intOf iv).toNat)
  case atStart => exact ⟨0, t, hle, rfl, rfl, fun i hi => by omega⟩
  case round =>
    obtain ⟨j, p, hp, hjp, rfl, Hno⟩ := hrel
    have Hjp := Lib.hid hjp
    by_cases hpp : p < bs.length
    · obtain ⟨b, o, rfl, hc⟩ := HG.out p hpp
      have hpl : (p : Int) < bs.length := by omega
      have Hs : Hid (bf bs p ≠ 1 → ∀ i, i < j + 1 → bf bs (t + i) ≠ 1) := by
        intro h i hi
        rcases Nat.lt_succ_iff_lt_or_eq.1 hi with h1 | h1
        · exact Hno.out i h1
        · rw [h1, hjp]; exact h
      have HV2 : Hid (bf bs p = 1 → E = 0 ∧ V = j ∧ T = p + 1) := by
        intro h
        obtain ⟨a1, a2, a3⟩ := HV.out j (by omega) Hno.out (by rw [hjp]; exact h)
        exact ⟨a1, a2, by omega⟩
      have hx : bs.getD p 0 = bf bs p := rfl
      rw [hx] at hc
      clear hx
      generalize bf bs p = x at *
      clear HV HN HG
      by_cases h1 : x = 1
      · obtain rfl := h1
        obtain ⟨rfl, rfl, rfl⟩ := HV2.out rfl
        have e1 : IntKind.i64.wrap ((p : Int) - t) = (V : Int) := by rw [IntKind.wrap_i64]; omega
        have e2 : wrap64 ((p : Int) - t) = (V : Int) := by unfold wrap64; omega
        have e3 : (p : Int) - t = (V : Int) := by omega
        have HH := Lib.hid (HR.out.set (p + 1) (by omega))
        have HF : Hid (Fr (· = X) w (w.setCell ⟨X, 1, none⟩ (.int .i64 ((p + 1 : Nat) : Int)))) := (Fr.refl _ _).put 1 _
        rw [Int.natCast_add] at HH HF
        clear hjp hle hp
        go_wp2_with fail
        go_ret2
        exact ⟨rfl, HH.out, HF.out⟩
      · have hb1 : ((x : Int) == 1) = false := by rw [beq_eq_false_iff_ne]; omega
        have Hn := Lib.hid (Hs.out h1)
        clear h1 hjp
        go_wp2_with fail
        go_round
        case rel => exact ⟨j + 1, p + 1, by omega, by have := Hjp.out; omega, by go_num, Hn.out⟩
        case measure => simp [intOf] <;> omega
    · obtain rfl : p = bs.length := by omega
      obtain ⟨rfl, rfl, rfl⟩ := HN.out (fun i hi => Hno.out i (by omega))
      clear HG HV HN hjp
      go_wp2_with fail
      go_ret2
      exact ⟨rfl, HR.out, Fr.refl _ _⟩

def raE (bs : List Nat) (t : Nat) : Int := if sg (bf bs) t (alN t) = 0 then 0 else 12
def raV (bs : List Nat) (t : Nat) : Nat := if sg (bf bs) t (alN t) = 0 then alN t else 0
def raT (bs : List Nat) (t : Nat) : Nat := if sg (bf bs) t (alN t) = 0 then t + alN t else t
theorem sg_ne {f : Nat → Nat} {t i : Nat} : ∀ n, i < n → f (t + i) = 1 → sg f t n ≠ 0
  | 0, h, _ => by omega
  | n + 1, h, h1 => by
    rw [sg]
    rcases Nat.lt_succ_iff_lt_or_eq.1 h with h2 | h2
    · have := sg_ne n h2 h1; omega
    · subst h2; omega
set_option maxHeartbeats 1000000 in
theorem RAlign_any (X t : Nat) (A : Option Addr) (bs : List Nat) (c : Nat) (w : World) (hr : RRdr w X t A bs c) (h8 : bs.length % 8 = 0) :
    Calls Try.prog 36 #[.pointer (some ⟨X, 0, none⟩)] w fun e w' => e = .returned (.tuple #[.int .i64 (raV bs t : Nat), .int .i64 (raE bs t)]) ∧ RRdr w' X (raT bs t) A bs c ∧ Fr (· = X) w w' := by
  have hz := hr.fz 1
  have h0 := hr.c0
  have h1 := hr.c1
  have hfew := hr.few
  have hcap := hr.cap
  have hle := hr.le
  have HR := Lib.hid hr
  have Hrd := Lib.hid hr.rd
  have Hbit := Lib.hid (getD_lt hr.bit)
  clear hr
  have HV : Hid (∀ j, j < alN t → bf bs (t + j) = 1 → raE bs t = 12 ∧ raV bs t = 0 ∧ raT bs t = t) := by
    intro j hj h1
    have h3 := sg_ne (alN t) hj h1
    rw [raE, raV, raT, if_neg h3, if_neg h3, if_neg h3]
    exact ⟨rfl, rfl, rfl⟩
  have HN : Hid ((∀ i, i < alN t → bf bs (t + i) ≠ 1) → raE bs t = 0 ∧ raV bs t = alN t ∧ raT bs t = t + alN t) := by
    intro h1
    have h3 : sg (bf bs) t (alN t) = 0 := sg_zero _ _ fun i hi => by have a := h1 i hi; have b := Hbit.out (t + i); unfold bf at a ⊢; omega
    rw [raE, raV, raT, if_pos h3, if_pos h3, if_pos h3]
    exact ⟨rfl, rfl, rfl⟩
  have HG := Lib.hid (fun j (h : j < bs.length) => Hrd.out j _ (iv8_get bs j h))
  have hal : alN t = (8 - t % 8) % 8 := rfl
  generalize raV bs t = V at *
  generalize raE bs t = E at *
  generalize raT bs t = T at *
  generalize alN t = K at *
  have Hal := Lib.hid hal
  have H8 := Lib.hid h8
  clear hal h8
  go_enter Try.func36, Try.ntmps36
  go_wp2_with fail
  go_loop [4] (fun iv => ∃ j p : Nat, p ≤ bs.length ∧ t + j = p ∧ j ≤ K ∧ iv = .int .i64 (p : Int) ∧ Hid (∀ i, i < j → bf bs (t + i) ≠ 1)) (fun iv => bs.length - (intOf iv).toNat)
  case atStart => exact ⟨0, t, hle, rfl, Nat.zero_le _, rfl, fun i hi => by omega⟩
  case round =>
    obtain ⟨j, p, hp, hjp, hjK, rfl, Hno⟩ := hrel
    have Hjp := Lib.hid hjp
    by_cases hpp : p % 8 = 0
    · obtain rfl : j = K := by have := Hal.out; omega
      have hm : ((p : Int) % 8 != 0) = false := by rw [bne_eq_false_iff_eq]; omega
      obtain ⟨rfl, rfl, rfl⟩ := HN.out (fun i hi => Hno.out i hi)
      have e1 : IntKind.i64.wrap ((p : Int) - t) = (V : Int) := by rw [IntKind.wrap_i64]; omega
      have e2 : wrap64 ((p : Int) - t) = (V : Int) := by unfold wrap64; omega
      have e4 : wrap64 (V : Int) = V := wrap_nat V (by omega)
      have e3 : (p : Int) - t = (V : Int) := by omega
      have HH : Hid (RRdr (w.setCell ⟨X, 1, none⟩ (.int .i64 (p : Int))) X (t + V) A bs c) := by show RRdr _ _ _ _ _ _; rw [hjp]; exact HR.out.set p hp
      have HF : Hid (Fr (· = X) w (w.setCell ⟨X, 1, none⟩ (.int .i64 (p : Int)))) := (Fr.refl _ _).put 1 _
      clear hjp hle hp HN HV HG hpp hjK
      go_wp2_with fail
      go_ret2
      exact ⟨rfl, HH.out, HF.out⟩
    · have hm : ((p : Int) % 8 != 0) = true := by rw [bne_iff_ne]; omega
      have hpl : p < bs.length := by have := H8.out; omega
      have hjK2 : j < K := by have := Hal.out; omega
      obtain ⟨b, o, rfl, hc⟩ := HG.out p hpl
      have hpl2 : (p : Int) < bs.length := by omega
      have Hs : Hid (bf bs p ≠ 1 → ∀ i, i < j + 1 → bf bs (t + i) ≠ 1) := by
        intro h i hi
        rcases Nat.lt_succ_iff_lt_or_eq.1 hi with h1 | h1
        · exact Hno.out i h1
        · rw [h1, hjp]; exact h
      have HV2 : Hid (bf bs p = 1 → E = 12 ∧ V = 0 ∧ T = t) := by
        intro h
        exact HV.out j hjK2 (by rw [hjp]; exact h)
      have hx : bs.getD p 0 = bf bs p := rfl
      rw [hx] at hc
      clear hx hpp
      generalize bf bs p = x at *
      clear HV HN HG
      by_cases h1 : x = 1
      · obtain rfl := h1
        obtain ⟨rfl, rfl, rfl⟩ := HV2.out rfl
        clear hjp
        go_wp2_with fail
        go_ret2
        exact ⟨rfl, HR.out, Fr.refl _ _⟩
      · have hb1 : ((x : Int) == 1) = false := by rw [beq_eq_false_iff_ne]; omega
        have Hn := Lib.hid (Hs.out h1)
        clear h1 hjp
        go_wp2_with fail
        go_round
        case rel => exact ⟨j + 1, p + 1, by omega, by have := Hjp.out; omega, by omega, by go_num, Hn.out⟩
        case measure => simp [intOf] <;> omega
set_option maxHeartbeats 400000 in
theorem RSeek_any (X t : Nat) (A : Option Addr) (bs : List Nat) (c : Nat) (at' : Int) (w : World) (hr : RRdr w X t A bs c) :
    Calls Try.prog 37 #[.pointer (some ⟨X, 0, none⟩), .int .i64 at'] w fun e w' =>
      e = .returned (.int .i64 (if at' < 0 ∨ (bs.length : Int) < at' then 10 else 0)) ∧ RRdr w' X (if at' < 0 ∨ (bs.length : Int) < at' then t else at'.toNat) A bs c ∧ Fr (· = X) w w' := by
  have hz := hr.fz 1
  have h0 := hr.c0
  have h1 := hr.c1
  have hfew := hr.few
  have hcap := hr.cap
  have hle := hr.le
  have HR := Lib.hid hr
  clear hr
  by_cases hc : at' < 0 ∨ (bs.length : Int) < at'
  · rw [if_pos hc, if_pos hc]
    by_cases h2 : at' < 0
    · clear hc
      generalize hll : bs.length = n at *
      go_enter Try.func37, Try.ntmps37
      go_wp2_with fail
      go_ret
      exact ⟨rfl, HR.out, Fr.refl _ _⟩
    · have h3 : at' > (bs.length : Int) := by omega
      clear hc
      generalize hll : bs.length = n at *
      go_enter Try.func37, Try.ntmps37
      go_wp2_with fail
      go_ret
      exact ⟨rfl, HR.out, Fr.refl _ _⟩
  · rw [if_neg hc, if_neg hc]
    obtain ⟨p, rfl⟩ : ∃ p : Nat, at' = p := ⟨at'.toNat, by omega⟩
    have h2 : ¬ (p : Int) < 0 := by omega
    have h3 : ¬ (p : Int) > (bs.length : Int) := by omega
    have HH := Lib.hid (HR.out.set p (by omega))
    have HF : Hid (Fr (· = X) w (w.setCell ⟨X, 1, none⟩ (.int .i64 (p : Int)))) := (Fr.refl _ _).put 1 _
    clear hc
    rw [Int.toNat_natCast]
    generalize hll : bs.length = n at *
    go_enter Try.func37, Try.ntmps37
    go_wp2_with fail
    go_ret
    exact ⟨rfl, HH.out, HF.out⟩
end Go.Proofs.Ytfncmgojeaeihaa
