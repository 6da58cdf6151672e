/-
  Writer: Signed.
-/
import Derived.Test.YtfncmgojeaeihaaLow01
namespace Go.Proofs.Ytfncmgojeaeihaa
open Go.RowKit

def swE (n v : Int) : Int := if n < 0 ∨ 48 < n then 1 else if (n = 0 ∧ v ≠ 0) ∨ (0 < n ∧ (v < -2 ^ (n.toNat - 1) ∨ 2 ^ (n.toNat - 1) ≤ v)) then 10 else 0
def swB (bs : List Nat) (n v : Int) : List Nat := if swE n v = 0 then bs ++ vb (v % 2 ^ n.toNat).toNat n.toNat else bs
set_option maxRecDepth 100000 in
set_option maxHeartbeats 600000 in
theorem SignedW_any (R : Nat) (bs : List Nat) (u : Value) (n v : Int) (w : World) (hW : Wtr w R bs u) (hlen : bs.length + 48 ≤ 1000000000000) :
    Calls Try.prog 24 #[.pointer (some ⟨R, 0, none⟩), .int .i64 n, .int .i64 v] w fun e w' => e = .returned (.int .i64 (swE n v)) ∧ ∃ u', Wtr w' R (swB bs n v) u' ∧ FrW R u u' w w' := by
  have HW := Lib.hid hW
  clear hW
  have stay : Hid (swE n v ≠ 0 → ∃ u', Wtr w R (swB bs n v) u' ∧ FrW R u u' w w) := fun h => ⟨u, by rw [swB, if_neg h]; exact HW.out, FrW.refl _ _ _⟩
  have HE : Hid (swE n v = if n < 0 ∨ 48 < n then 1 else if (n = 0 ∧ v ≠ 0) ∨ (0 < n ∧ (v < -2 ^ (n.toNat - 1) ∨ 2 ^ (n.toNat - 1) ≤ v)) then 10 else 0) := rfl
  have HB : Hid (swE n v = 0 → swB bs n v = bs ++ vb (v % 2 ^ n.toNat).toNat n.toNat) := fun h => if_pos h
  generalize swE n v = E at *
  generalize swB bs n v = B at *
  by_cases h1 : n < 0
  · have hE : E = 1 := by rw [HE.out, if_pos (.inl h1)]
    subst hE
    have HS := Lib.hid (stay.out (by decide))
    clear stay HE HB
    go_enter Try.func24, Try.ntmps24
    go_wp2_with fail
    try rw [Exit.noGoto_ret]
    go_ret
    exact ⟨rfl, HS.out⟩
  by_cases h2 : n > 48
  · have hE : E = 1 := by rw [HE.out, if_pos (.inr h2)]
    subst hE
    have HS := Lib.hid (stay.out (by decide))
    clear stay HE HB
    go_enter Try.func24, Try.ntmps24
    go_wp2_with fail
    try rw [Exit.noGoto_ret]
    go_ret
    exact ⟨rfl, HS.out⟩
  obtain ⟨m, rfl⟩ : ∃ m : Nat, n = m := ⟨n.toNat, by omega⟩
  rw [Int.toNat_natCast] at HE HB
  have hm : m ≤ 48 := by omega
  have HE2 : Hid (E = if ((m : Int) = 0 ∧ v ≠ 0) ∨ (0 < (m : Int) ∧ (v < -2 ^ (m - 1) ∨ 2 ^ (m - 1) ≤ v)) then 10 else 0) := by show _ = _; rw [HE.out, if_neg (by omega)]
  clear HE
  rcases Nat.eq_zero_or_pos m with rfl | hm0
  · by_cases h3 : v = 0
    · subst h3
      have hE : E = 0 := by rw [HE2.out, if_neg (by omega)]
      subst hE
      have HBe : Hid (B = bs) := by show _ = _; rw [HB.out rfl]; simp [vb]
      have HP : Hid (Calls Try.prog 33 #[.pointer (some ⟨R, 0, none⟩), .int .i64 0, .int .i64 0] w fun e w' => (∃ q, e = .returned q) ∧ ∃ u', Wtr w' R bs u' ∧ FrW R u u' w w') := by
        have h := put_any R bs u 0 0 (by decide) (by decide) w HW.out (by omega)
        rw [show bs ++ vb 0 0 = bs from List.append_nil _] at h
        exact h
      have g1 : IntKind.i64.wrap 1 = 1 := by decide
      have g0 : IntKind.i64.wrap 0 = 0 := by decide
      have g2 : bits .and .i64 0 0 = 0 := by decide
      clear stay HE2 HB
      go_enter Try.func24, Try.ntmps24
      go_wp2_with fail
      refine HP.out.mono ?_
      rintro e w2 ⟨⟨q2, rfl⟩, u2, hW1, hF1⟩
      go_wp2_with fail
      try rw [Exit.noGoto_ret]
      go_ret
      exact ⟨rfl, u2, by rw [HBe.out]; exact hW1, hF1⟩
    · have hE : E = 10 := by rw [HE2.out, if_pos (.inl ⟨rfl, h3⟩)]
      subst hE
      have HS := Lib.hid (stay.out (by decide))
      have hv : (v != 0) = true := by rw [bne_iff_ne]; exact h3
      clear stay HE2 HB
      go_enter Try.func24, Try.ntmps24
      go_wp2_with fail
      try rw [Exit.noGoto_ret]
      go_ret
      exact ⟨rfl, HS.out⟩
  · obtain ⟨k, rfl⟩ : ∃ k, m = k + 1 := ⟨m - 1, by omega⟩
    obtain ⟨K1, K, M, z, hK1i, hKi, ⟨hb1, hb2, hb3, hb4⟩, hM, hz, hzi, hzlt⟩ := sw_facts v k (by omega)
    have HPt : Hid (Calls Try.prog 33 #[.pointer (some ⟨R, 0, none⟩), .int .i64 (k + 1 : Nat), .int .i64 z] w fun e w' => (∃ q, e = .returned q) ∧ ∃ u', Wtr w' R (bs ++ vb z (k + 1)) u' ∧ FrW R u u' w w') := put_any R bs u z (k + 1) hzlt hm w HW.out (Nat.le_trans (Nat.add_le_add_left hm _) hlen)
    have HBq : Hid (E = 0 → B = bs ++ vb z (k + 1)) := fun h => by rw [HB.out h, hzi, Int.toNat_natCast]
    rw [show k + 1 - 1 = k from rfl, hK1i] at HE2
    have hb63 : K < 9223372036854775808 := Nat.lt_of_le_of_lt hb4 (by decide)
    have hb62 : K1 < 9223372036854775808 := Nat.lt_of_le_of_lt hb2 (by decide)
    have f0 : IntKind.i64.wrap (K1 : Int) = K1 := wrap_i64_nat K1 hb62
    have f0' : wrap64 (K1 : Int) = K1 := wrap_nat K1 hb62
    have fa : IntKind.i64.wrap (-(K1 : Int)) = -K1 := wrap_neg_i K1 hb2
    have fa' : wrap64 (-(K1 : Int)) = -K1 := wrap_neg K1 hb2
    have f1 : IntKind.i64.wrap (K : Int) = K := wrap_i64_nat K hb63
    have f1' : wrap64 (K : Int) = K := wrap_nat K hb63
    have f2 : IntKind.i64.wrap ((K : Int) - 1) = (M : Int) := by rw [← hM]; exact wrap_less_i K hb3 hb63
    have f2' : wrap64 ((K : Int) - 1) = (M : Int) := by rw [← hM]; exact wrap_less K hb3 hb63
    clear HB hzi hzlt hM hb1 hb2 hb3 hb4 hb63 hb62
    obtain ⟨q, hq⟩ : ∃ q, k + 1 = q := ⟨_, rfl⟩
    rw [hq] at HPt HBq HE2 hKi hm h2 h1
    have hk1 : (q : Int) - 1 = k := by clear hKi hK1i; omega
    have hq0 : (0 : Int) < q := by clear hKi hK1i; omega
    have hk0 : (q : Int) > 0 := hq0
    have hk3 : ((q : Int) == 0) = false := by rw [beq_eq_false_iff_ne]; clear hKi hK1i; omega
    have hmk : min k 64 = k := Nat.min_eq_left (by clear hKi hK1i; omega)
    have hmq : min q 64 = q := Nat.min_eq_left (by clear hKi hK1i; omega)
    rw [hq]
    clear hq hm0
    by_cases h3 : v < -(K1 : Int)
    · have hE : E = 10 := by rw [HE2.out, if_pos (.inr ⟨hq0, .inl h3⟩)]
      subst hE
      have HS := Lib.hid (stay.out (by decide))
      clear stay HE2 HBq
      go_enter Try.func24, Try.ntmps24
      go_wp2_with fail
      try rw [Exit.noGoto_ret]
      go_ret
      exact ⟨rfl, HS.out⟩
    by_cases h4 : v ≥ (K1 : Int)
    · have hE : E = 10 := by rw [HE2.out, if_pos (.inr ⟨hq0, .inr h4⟩)]
      subst hE
      have HS := Lib.hid (stay.out (by decide))
      clear stay HE2 HBq
      go_enter Try.func24, Try.ntmps24
      go_wp2_with fail
      try rw [Exit.noGoto_ret]
      go_ret
      exact ⟨rfl, HS.out⟩
    have hE : E = 0 := by rw [HE2.out, if_neg (by clear hKi hK1i; omega)]
    subst hE
    have HBe := Lib.hid (HBq.out rfl)
    clear stay HE2 HBq
    go_enter Try.func24, Try.ntmps24
    go_wp2_with fail
    refine HPt.out.mono ?_
    rintro e w2 ⟨⟨q2, rfl⟩, u2, hW1, hF1⟩
    go_wp2_with fail
    try rw [Exit.noGoto_ret]
    go_ret
    exact ⟨rfl, u2, by rw [HBe.out]; exact hW1, hF1⟩
end Go.Proofs.Ytfncmgojeaeihaa
