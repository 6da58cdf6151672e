/-
  The walk of jetsamlaw02.SumsShift, SumsTell, SumsJoin: each returns true if its plain law holds.
-/
import Derived.Test.YtjfjkmbokiinbaaAwake02
import Derived.Test.YtjfjkmbokiinbaaRefSums
namespace Go.Proofs.Ytjfjkmbokiinbaa
open Go.RowKit
open Crc (bits8 bitsOf bits8_le bitsOf_le)

theorem step8_eq : step8 = Crc.L 256 263 := rfl
theorem step16_eq : step16 = Crc.L 65536 98309 := rfl
theorem lst8_eq : lst8 = Crc.lst 256 7 := rfl
theorem lst16_eq : lst16 = Crc.lst 65536 32773 := rfl
theorem nxt8_eq (s x : Nat) : nxt8 s x = Crc.nxt 256 263 (2 ^ (8 - 8)) s x := by
  unfold nxt8 Crc.nxt one8
  rw [step8_eq, show (255 : Nat) = 2 ^ 8 - 1 from rfl, Nat.and_two_pow_sub_one_eq_mod]
  simp
theorem nxt16_eq (s x : Nat) : nxt16 s x = Crc.nxt 65536 98309 (2 ^ (16 - 8)) s x := by
  unfold nxt16 Crc.nxt one16
  rw [step16_eq, show (65535 : Nat) = 2 ^ 16 - 1 from rfl, Nat.and_two_pow_sub_one_eq_mod]
theorem crc8_eq (s : Nat) (l : List UInt8) : crc8 s l = Crc.crc 256 263 (2 ^ (8 - 8)) s l := by
  unfold crc8 Crc.crc
  congr 1
  funext s x
  exact nxt8_eq _ _
theorem crc16_eq (s : Nat) (l : List UInt8) : crc16 s l = Crc.crc 65536 98309 (2 ^ (16 - 8)) s l := by
  unfold crc16 Crc.crc
  congr 1
  funext s x
  exact nxt16_eq _ _
theorem tells8 (l : List UInt8) : crc8 0 l = lft8 (bitsOf l) := by rw [crc8_eq, Crc.p8.tells]; rfl
theorem tells16 (l : List UInt8) : crc16 0 l = lft16 (bitsOf l) := by rw [crc16_eq, Crc.p16.tells]; rfl

set_option maxHeartbeats 1600000 in
theorem tell_walk (l : List UInt8) (A : Option Addr) (c : Nat) (at_ : Int) (w : World) (hr : Rd w A (bv l)) (hc : l.length ≤ c)
    (P8 : l.length ≤ 400 → crc8 0 l = lft8 (bitsOf l)) (P16 : l.length ≤ 400 → crc16 0 l = lft16 (bitsOf l)) :
    Calls Try.prog 3 #[.slice A l.length c, .int .i64 at_] w fun e w' => e = .returned (.bool true) ∧ Below w.heap.size w w' := by
  have HP8 := Lib.hid P8; clear P8
  have HP16 := Lib.hid P16; clear P16
  by_cases h1 : (400 : Int) < l.length
  · go_enter Try.func3, Try.ntmps3
    go_wp2_with fail
    refine (awake_any _).mono ?_
    rintro e w1 ⟨rfl, hb1⟩
    go_wp2_with fail
    go_ret
    exact ⟨rfl, hb1⟩
  by_cases h2 : at_ < 0
  · go_enter Try.func3, Try.ntmps3
    go_wp2_with fail
    refine (awake_any _).mono ?_
    rintro e w1 ⟨rfl, hb1⟩
    go_wp2_with fail
    go_ret
    exact ⟨rfl, hb1⟩
  by_cases h3 : (l.length : Int) < at_
  · go_enter Try.func3, Try.ntmps3
    go_wp2_with fail
    refine (awake_any _).mono ?_
    rintro e w1 ⟨rfl, hb1⟩
    go_wp2_with fail
    go_ret
    exact ⟨rfl, hb1⟩
  obtain ⟨n, rfl⟩ := Int.eq_ofNat_of_zero_le (Int.not_lt.1 h2)
  have hn0 : (0 : Int) ≤ n := by omega
  have hn1 : (n : Int) ≤ l.length := by omega
  have hn2 : (n : Int) ≤ c := by omega
  have Hr := Lib.hid hr; clear hr
  have hl4 : l.length ≤ 400 := by omega
  obtain ⟨X8, hX8⟩ : ∃ X, X = crc8 0 l := ⟨_, rfl⟩
  obtain ⟨X16, hX16⟩ : ∃ X, X = crc16 0 l := ⟨_, rfl⟩
  obtain ⟨A2, hA2⟩ : ∃ A2, (if c = n then A else Option.map (fun x => x.add n) A) = A2 := ⟨_, rfl⟩
  have HL : Hid (BS w (.slice A n c) (l.take n)) := BS.take Hr.out hc (by omega)
  have HR : Hid (BS w (.slice A2 (l.length - n) (c - n)) (l.drop n)) := hA2 ▸ BS.drop Hr.out hc (by omega)
  have C1 : Hid (∀ W : World, Below w.heap.size w W → ∀ H, W.heap.size = H → Calls Try.prog 10 #[.slice (some ⟨H, 0, none⟩) 2 2] (W.alloc (.cells #[Value.slice A n c, Value.slice A2 (l.length - n) (c - n)] 22)).drew fun e w' => e = .returned (.int .i64 X8) ∧ Below W.heap.size W w') := by
    intro W hb H hH
    have hB : BSS (W.alloc (.cells #[Value.slice A n c, Value.slice A2 (l.length - n) (c - n)] 22)).drew (.slice (some ⟨H, 0, none⟩) 2 2) [l.take n, l.drop n] := BSS.two (w := W) (HL.out.below hb) (HR.out.below hb) _ hH
    refine (Sum8_any [l.take n, l.drop n] _ _ _ hB (by simp) (by simp; omega)).mono ?_
    rintro e w1 ⟨rfl, hb1⟩
    refine ⟨by simp [List.take_append_drop, hX8], bnext (by repeat (first | exact Below.refl _ _ | assumption | refine below_drewN ?_ _ | refine Below.drew ?_ | refine Below.alloc ?_ (Nat.le_refl _) _ | refine bal ?_ _ | refine bnext ?_ (by assumption))) hb1⟩
  have C2 : Hid (∀ W : World, Below w.heap.size w W → ∀ H, W.heap.size = H → Calls Try.prog 12 #[.slice (some ⟨H, 0, none⟩) 3 3] (W.alloc (.cells #[Value.slice A n c, .slice none 0 0, Value.slice A2 (l.length - n) (c - n)] 22)) fun e w' => e = .returned (.int .i64 X16) ∧ Below W.heap.size W w') := by
    intro W hb H hH
    have hB : BSS (W.alloc (.cells #[Value.slice A n c, .slice none 0 0, Value.slice A2 (l.length - n) (c - n)] 22)) (.slice (some ⟨H, 0, none⟩) 3 3) [l.take n, [], l.drop n] := BSS.three (w := W) (HL.out.below hb) (BS.nil _) (HR.out.below hb) _ hH
    refine (Sum16_any [l.take n, [], l.drop n] _ _ _ hB (by simp) (by simp; omega)).mono ?_
    rintro e w1 ⟨rfl, hb1⟩
    refine ⟨by simp [List.take_append_drop, hX16], bnext (by repeat (first | exact Below.refl _ _ | assumption | refine below_drewN ?_ _ | refine Below.drew ?_ | refine Below.alloc ?_ (Nat.le_refl _) _ | refine bal ?_ _ | refine bnext ?_ (by assumption))) hb1⟩
  have C3 : Hid (∀ W : World, Below w.heap.size w W → Calls Try.prog 11 #[.slice A l.length c] W fun e w' => e = .returned (.int .i64 X8) ∧ Below W.heap.size W w') := by
    intro W hb
    rw [hX8, HP8.out hl4]
    exact refSum8_any l A c W (Hr.out.below hb) (by omega)
  have C4 : Hid (∀ W : World, Below w.heap.size w W → Calls Try.prog 13 #[.slice A l.length c] W fun e w' => e = .returned (.int .i64 X16) ∧ Below W.heap.size W w') := by
    intro W hb
    rw [hX16, HP16.out hl4]
    exact refSum16_any l A c W (Hr.out.below hb) (by omega)
  clear hX8 hX16
  go_enter Try.func3, Try.ntmps3
  go_wp2_with fail
  go_region_held3 (fun w' => Below w.heap.size w w') (repeat (first | exact Below.refl _ _ | assumption | refine below_drewN ?_ _ | refine Below.drew ?_ | refine Below.alloc ?_ (Nat.le_refl _) _ | refine bal ?_ _ | refine bnext ?_ (by assumption))) (first
    | (go_at_call 10; refine (C1.out _ ?_ _ (by simp)).mono ?_; (repeat (first | exact Below.refl _ _ | assumption | refine below_drewN ?_ _ | refine Below.drew ?_ | refine Below.alloc ?_ (Nat.le_refl _) _ | refine bal ?_ _ | refine bnext ?_ (by assumption))); rintro e w1 ⟨rfl, hb1⟩)
    | (go_at_call 12; refine (C2.out _ ?_ _ (by simp)).mono ?_; (repeat (first | exact Below.refl _ _ | assumption | refine below_drewN ?_ _ | refine Below.drew ?_ | refine Below.alloc ?_ (Nat.le_refl _) _ | refine bal ?_ _ | refine bnext ?_ (by assumption))); rintro e w1 ⟨rfl, hb1⟩)
    | (go_at_call 11; refine (C3.out _ ?_).mono ?_; (repeat (first | exact Below.refl _ _ | assumption | refine below_drewN ?_ _ | refine Below.drew ?_ | refine Below.alloc ?_ (Nat.le_refl _) _ | refine bal ?_ _ | refine bnext ?_ (by assumption))); rintro e w1 ⟨rfl, hb1⟩)
    | (go_at_call 13; refine (C4.out _ ?_).mono ?_; (repeat (first | exact Below.refl _ _ | assumption | refine below_drewN ?_ _ | refine Below.drew ?_ | refine Below.alloc ?_ (Nat.le_refl _) _ | refine bal ?_ _ | refine bnext ?_ (by assumption))); rintro e w1 ⟨rfl, hb1⟩)
    | (go_at_call 9; refine (awake_any _).mono ?_; rintro e w1 ⟨rfl, hb1⟩))
  go_wp2_with fail
  go_ret
  exact ⟨rfl, by repeat (first | exact Below.refl _ _ | assumption | refine below_drewN ?_ _ | refine Below.drew ?_ | refine Below.alloc ?_ (Nat.le_refl _) _ | refine bal ?_ _ | refine bnext ?_ (by assumption))⟩

end Go.Proofs.Ytjfjkmbokiinbaa
