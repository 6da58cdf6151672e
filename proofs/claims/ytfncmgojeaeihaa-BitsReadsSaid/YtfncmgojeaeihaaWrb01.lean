/-
  Writer: Align, Unary, Signed.
-/
import Derived.Test.YtfncmgojeaeihaaWr01
namespace Go.Proofs.Ytfncmgojeaeihaa
open Go.RowKit

def zb (n : Nat) : List Nat := List.replicate n 0
theorem zb_length (n : Nat) : (zb n).length = n := by simp [zb]
theorem vb_zero (n : Nat) : vb 0 n = zb n := by
  refine List.ext_getElem (by rw [vb_length, zb_length]) fun i h1 h2 => ?_
  simp [vb, zb]
theorem zb_add (a b : Nat) : zb a ++ zb b = zb (a + b) := by simp [zb, List.replicate_append_replicate]

set_option maxHeartbeats 400000 in
theorem AlignW_any (R : Nat) (bs : List Nat) (u : Value) (w : World) (hW : Wtr w R bs u) (hlen : bs.length + 48 ≤ 1000000000000) :
    Calls Try.prog 27 #[.pointer (some ⟨R, 0, none⟩)] w fun e w' => e = .returned (.int .i64 (alN bs.length : Nat)) ∧ ∃ u', Wtr w' R (bs ++ zb (alN bs.length)) u' ∧ FrW R u u' w w' := by
  have HRe := Lib.hid (rest_any bs.length (by omega) w)
  have h0 := hW.c0
  have hn8 : alN bs.length < 8 := Nat.mod_lt _ (by omega)
  have Hn : Hid ((8 - bs.length % 8) % 8 = alN bs.length) := rfl
  rw [Hn.out] at HRe
  have HP : Hid (∀ W : World, Below w.heap.size w W → Calls Try.prog 33 #[.pointer (some ⟨R, 0, none⟩), .int .i64 (alN bs.length : Nat), .int .i64 0] W fun e w' => (∃ q, e = .returned q) ∧ ∃ u', Wtr w' R (bs ++ zb (alN bs.length)) u' ∧ FrW R u u' W w') := by
    intro W hb
    have h := put_any R bs u 0 (alN bs.length) (Nat.pow_pos (by omega)) (by omega) W (hW.below hb) (by omega)
    rw [vb_zero] at h
    exact h
  clear hW Hn
  generalize alN bs.length = n at *
  generalize bs.length = m at *
  go_enter Try.func27, Try.ntmps27
  go_wp2_with fail
  refine HRe.out.mono ?_
  rintro e w1 ⟨rfl, hb⟩
  clear h0
  go_wp2_with fail
  refine (HP.out _ hb).mono ?_
  rintro e w2 ⟨⟨q, rfl⟩, u', hW1, hF1⟩
  go_wp2_with fail
  go_ret
  exact ⟨rfl, u', hW1, (FrW.of hb).trans hF1⟩

def uwE (n : Int) : Int := if n < 0 ∨ 65536 < n then 10 else 0
def uwB (bs : List Nat) (n : Int) : List Nat := if uwE n = 0 then bs ++ (zb n.toNat ++ [1]) else bs
set_option maxHeartbeats 800000 in
theorem UnaryW_any (R : Nat) (bs : List Nat) (u : Value) (n : Int) (w : World) (hW : Wtr w R bs u) (hlen : bs.length + 70000 ≤ 1000000000000) :
    Calls Try.prog 25 #[.pointer (some ⟨R, 0, none⟩), .int .i64 n] w fun e w' => e = .returned (.int .i64 (uwE n)) ∧ ∃ u', Wtr w' R (uwB bs n) u' ∧ FrW R u u' w w' := by
  have HW := Lib.hid hW
  clear hW
  by_cases h1 : n < 0
  · have hE : Hid (uwE n = 10) := if_pos (.inl h1)
    have hB : Hid (uwB bs n = bs) := if_neg (by rw [hE.out]; decide)
    rw [hE.out, hB.out]
    go_enter Try.func25, Try.ntmps25
    go_wp2_with fail
    try rw [Exit.noGoto_ret]
    go_ret
    exact ⟨rfl, u, HW.out, FrW.refl _ _ _⟩
  by_cases h2 : n > 65536
  · have hE : Hid (uwE n = 10) := if_pos (.inr h2)
    have hB : Hid (uwB bs n = bs) := if_neg (by rw [hE.out]; decide)
    rw [hE.out, hB.out]
    go_enter Try.func25, Try.ntmps25
    go_wp2_with fail
    try rw [Exit.noGoto_ret]
    go_ret
    exact ⟨rfl, u, HW.out, FrW.refl _ _ _⟩
  obtain ⟨m, rfl⟩ : ∃ m : Nat, n = m := ⟨n.toNat, by omega⟩
  have hE : Hid (uwE m = 0) := if_neg (by omega)
  have hB : Hid (uwB bs m = bs ++ (zb m ++ [1])) := by show _ = _; rw [uwB, if_pos hE.out, Int.toNat_natCast]
  rw [hE.out, hB.out]
  clear hE hB
  go_enter Try.func25, Try.ntmps25
  go_wp2_with fail
  go_loopw [1] (fun nv wr => ∃ (j q : Nat) (u1 : Value), nv = .int .i64 (q : Int) ∧ Hid (q + j = m) ∧ Hid (Wtr wr R (bs ++ zb j) u1) ∧ Hid (FrW R u u1 w wr)) (fun nv _ => (intOf nv).toNat)
  case atStart => exact ⟨0, m, u, rfl, rfl, by show Wtr _ _ _ _; rw [show bs ++ zb 0 = bs from List.append_nil _]; exact HW.out, FrW.refl _ _ _⟩
  case round =>
    obtain ⟨j, q, u1, rfl, Hq, HWr, Hfr⟩ := hrel
    have hjm : j ≤ m := by have := Hq.out; omega
    by_cases hqq : q > 48
    · have HP : Hid (Calls Try.prog 33 #[.pointer (some ⟨R, 0, none⟩), .int .i64 48, .int .i64 0] wr fun e w' => (∃ q, e = .returned q) ∧ ∃ u', Wtr w' R (bs ++ zb (j + 48)) u' ∧ FrW R u1 u' wr w') := by
        have h := put_any R (bs ++ zb j) u1 0 48 (by decide) (by decide) wr HWr.out (by rw [List.length_append, zb_length]; omega)
        rw [vb_zero, List.append_assoc, zb_add] at h
        exact h
      have hqi : (q : Int) > 48 := by omega
      have hqm : q ≤ 65536 := by have := Hq.out; omega
      have hwq : IntKind.i64.wrap ((q : Int) - 48) = (q : Int) - 48 := by rw [IntKind.wrap_i64]; omega
      go_wp2_with fail
      refine HP.out.mono ?_
      rintro e w2 ⟨⟨q2, rfl⟩, u2, hW1, hF1⟩
      go_wp2_with fail
      go_roundw
      case rel => exact ⟨j + 48, q - 48, u2, by go_num, by show _ = _; have := Hq.out; omega, hW1, Hfr.out.trans hF1⟩
      case measure => simp [intOf] <;> omega
    · have HP : Hid (Calls Try.prog 33 #[.pointer (some ⟨R, 0, none⟩), .int .i64 q, .int .i64 0] wr fun e w' => (∃ q, e = .returned q) ∧ ∃ u', Wtr w' R (bs ++ zb m) u' ∧ FrW R u1 u' wr w') := by
        have h := put_any R (bs ++ zb j) u1 0 q (Nat.pow_pos (by omega)) (by omega) wr HWr.out (by rw [List.length_append, zb_length]; omega)
        rw [vb_zero, List.append_assoc, zb_add, show j + q = m from by have := Hq.out; omega] at h
        exact h
      have HP2 : Hid (∀ (W : World) (u2 : Value), Wtr W R (bs ++ zb m) u2 → Calls Try.prog 33 #[.pointer (some ⟨R, 0, none⟩), .int .i64 1, .int .i64 1] W fun e w' => (∃ q, e = .returned q) ∧ ∃ u', Wtr w' R (bs ++ (zb m ++ [1])) u' ∧ FrW R u2 u' W w') := by
        intro W u2 h2
        have h := put_any R (bs ++ zb m) u2 1 1 (by decide) (by decide) W h2 (by rw [List.length_append, zb_length]; omega)
        rw [show vb 1 1 = [1] from by decide, List.append_assoc] at h
        exact h
      have hqi : ¬ (q : Int) > 48 := by omega
      go_wp2_with fail
      refine HP.out.mono ?_
      rintro e w2 ⟨⟨q2, rfl⟩, u2, hW1, hF1⟩
      go_wp2_with fail
      refine (HP2.out _ _ hW1).mono ?_
      rintro e w3 ⟨⟨q3, rfl⟩, u3, hW3, hF3⟩
      go_wp2_with fail
      try rw [Exit.noGoto_ret]
      go_ret
      exact ⟨rfl, u3, hW3, Hfr.out.trans (hF1.trans hF3)⟩
end Go.Proofs.Ytfncmgojeaeihaa
