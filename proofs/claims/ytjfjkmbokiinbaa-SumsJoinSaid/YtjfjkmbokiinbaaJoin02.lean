/-
  jetsamlaw02.SumsJoin: its walk.
-/
import Derived.Test.YtjfjkmbokiinbaaAwake02
import Derived.Test.YtjfjkmbokiinbaaSums3
namespace Go.Proofs.Ytjfjkmbokiinbaa
open Go.RowKit

set_option maxRecDepth 100000 in
set_option maxHeartbeats 1600000 in
theorem join_walk (l : List UInt8) (A : Option Addr) (c : Nat) (m : List UInt8) (B : Option Addr) (d : Nat) (w : World) (hl : Rd w A (bv l)) (hc : l.length ≤ c) (hm : Rd w B (bv m)) (hd : m.length ≤ d) :
    Calls Try.prog 7 #[.slice A l.length c, .slice B m.length d] w fun e w' => e = .returned (.bool true) ∧ Below w.heap.size w w' := by
  have HA : Hid (BS w (.slice A l.length c) l) := BS.of hl hc
  have HB : Hid (BS w (.slice B m.length d) m) := BS.of hm hd
  clear hl hm
  by_cases h1 : (400 : Int) < l.length
  · go_enter Try.func7, Try.ntmps7
    go_wp2_with fail
    (refine (awake_any _).mono ?_; rintro e w9 ⟨rfl, hb9⟩; go_wp2_with fail; go_ret; exact ⟨rfl, by repeat (first | exact Below.refl _ _ | assumption | refine below_drewN ?_ _ | refine Below.drew ?_ | refine Below.alloc ?_ (Nat.le_refl _) _ | refine bal ?_ _ | refine bnext ?_ (by assumption))⟩)
  by_cases h2 : (400 : Int) < m.length
  · go_enter Try.func7, Try.ntmps7
    go_wp2_with fail
    (refine (awake_any _).mono ?_; rintro e w9 ⟨rfl, hb9⟩; go_wp2_with fail; go_ret; exact ⟨rfl, by repeat (first | exact Below.refl _ _ | assumption | refine below_drewN ?_ _ | refine Below.drew ?_ | refine Below.alloc ?_ (Nat.le_refl _) _ | refine bal ?_ _ | refine bnext ?_ (by assumption))⟩)
  have hl4 : l.length < 4611686018427387904 := by omega
  have hm4 : m.length < 4611686018427387904 := by omega
  have HL4 := Lib.hid hl4; clear hl4
  have HM4 := Lib.hid hm4; clear hm4
  go_enter Try.func7, Try.ntmps7
  go_wp2_with fail
  refine (Sum8_one HA.out (Below.refl _ _) (by simp) HL4.out).mono ?_
  rintro e w1 ⟨rfl, hb1⟩
  go_wp2_with fail
  refine (Sum16_one HA.out hb1 (by simp) HL4.out).mono ?_
  rintro e w2 ⟨rfl, hb2⟩
  have hb2' : Below w.heap.size w w2 := bnext hb1 hb2
  have hx8 := crc8_lt 0 (by omega) l
  have Hx16 := Lib.hid (crc16_lt 0 (by decide) l)
  obtain ⟨x, hx⟩ : ∃ x, crc8 0 l = x := ⟨_, rfl⟩
  obtain ⟨y, hy⟩ : ∃ y, crc16 0 l = y := ⟨_, rfl⟩
  rw [hx] at hx8 ⊢
  rw [hy] at Hx16 ⊢
  have Hx := Lib.hid hx; clear hx
  have Hy := Lib.hid hy; clear hy
  go_wp2_with fail
  have hm400 : m.length ≤ 400 := by omega
  refine (Shift8_ok x (8 * m.length) hx8 (by omega) _).mono ?_
  rintro e w3 ⟨rfl, hb3⟩
  go_wp2_with fail
  refine (Shift16_ok y (8 * m.length) Hx16.out (by omega) _).mono ?_
  rintro e w4 ⟨rfl, hb4⟩
  have hb4' : Below w.heap.size w w4 := bnext (bnext hb2' hb3) hb4
  obtain ⟨p8, hp8⟩ : ∃ p, it step8 (8 * m.length) x = p := ⟨_, rfl⟩
  obtain ⟨p16, hp16⟩ : ∃ p, it step16 (8 * m.length) y = p := ⟨_, rfl⟩
  obtain ⟨t8, ht8⟩ : ∃ p, crc8 0 m = p := ⟨_, rfl⟩
  obtain ⟨t16, ht16⟩ : ∃ p, crc16 0 m = p := ⟨_, rfl⟩
  obtain ⟨u8, hu8⟩ : ∃ p, crc8 0 (l ++ m) = p := ⟨_, rfl⟩
  obtain ⟨u16, hu16⟩ : ∃ p, crc16 0 (l ++ m) = p := ⟨_, rfl⟩
  have E8 : bits .xor .i64 (p8 : Int) (t8 : Int) = (u8 : Int) := by
    have h1 : p8 < 256 := by rw [← hp8]; exact it_lt step8_lt _ _ hx8
    have h2 : t8 < 256 := by rw [← ht8]; exact crc8_lt 0 (by omega) m
    rw [i64_xor_nat _ _ (by omega) (by omega), ← hu8, join8, Hx.out, hp8, ht8]
  have E16 : bits .xor .i64 (p16 : Int) (t16 : Int) = (u16 : Int) := by
    have h1 : p16 < 65536 := by rw [← hp16]; exact it_lt step16_lt _ _ Hx16.out
    have h2 : t16 < 65536 := by rw [← ht16]; exact crc16_lt 0 (by decide) m
    rw [i64_xor_nat _ _ (by omega) (by omega), ← hu16, join16, Hy.out, hp16, ht16]
  rw [hp8, hp16]
  clear hp8 hp16
  have Ht8 := Lib.hid ht8; clear ht8
  have Ht16 := Lib.hid ht16; clear ht16
  have Hu8 := Lib.hid hu8; clear hu8
  have Hu16 := Lib.hid hu16; clear hu16
  go_wp2_with fail
  refine (Sum8_two HA.out HB.out hb4' (by simp) HL4.out HM4.out).mono ?_
  rintro e w5 ⟨rfl, hb5⟩
  have hb5' : Below w.heap.size w w5 := bnext hb4' hb5
  rw [Hu8.out]
  go_wp2_with fail
  refine (Sum8_one HB.out hb5' (by simp) HM4.out).mono ?_
  rintro e w6 ⟨rfl, hb6⟩
  have hb6' : Below w.heap.size w w6 := bnext hb5' hb6
  rw [Ht8.out]
  go_wp2_with fail
  refine (Sum16_two HA.out HB.out hb6' (by simp) HL4.out HM4.out).mono ?_
  rintro e w7 ⟨rfl, hb7⟩
  have hb7' : Below w.heap.size w w7 := bnext hb6' hb7
  rw [Hu16.out]
  go_wp2_with fail
  refine (Sum16_one HB.out hb7' (by simp) HM4.out).mono ?_
  rintro e w8 ⟨rfl, hb8⟩
  have hb8' : Below w.heap.size w w8 := bnext hb7' hb8
  rw [Ht16.out]
  go_wp2_with fail
  have hbb : BS (w8.alloc (.cells #[.int .u8 (x : Int)] 5)) (.slice (some ⟨w8.heap.size, 0, none⟩) 1 1) [UInt8.ofNat x] := by
    refine BS.new w8 [UInt8.ofNat x] #[.int .u8 (x : Int)] _ 1 rfl ?_ rfl
    simp [bv, Nat.mod_eq_of_lt hx8]
  have S8 := Sum8_two (W := w8.alloc (.cells #[.int .u8 (x : Int)] 5)) (HA.out.below (bal hb8' _)) hbb (Below.refl _ _) (H := w8.heap.size + 1) (by simp) HL4.out (by simp)
  rw [← Hx.out, seal8 l, Hx.out] at S8
  refine S8.mono ?_
  rintro e w9 ⟨rfl, hb9⟩
  have hb9' : Below w.heap.size w w9 := bnext (bal hb8' _) hb9
  clear S8 hbb
  go_wp2_with fail
  have hbb : BS (w9.alloc (.cells #[.int .u8 ((y : Int) / 256 % 256), .int .u8 ((y : Int) % 256)] 5)) (.slice (some ⟨w9.heap.size, 0, none⟩) 2 2) [UInt8.ofNat (y / 256), UInt8.ofNat y] := by
    refine BS.new w9 [UInt8.ofNat (y / 256), UInt8.ofNat y] #[.int .u8 ((y : Int) / 256 % 256), .int .u8 ((y : Int) % 256)] _ 2 rfl ?_ rfl
    simp [bv]
  have S16 := Sum16_two (W := w9.alloc (.cells #[.int .u8 ((y : Int) / 256 % 256), .int .u8 ((y : Int) % 256)] 5)) (HA.out.below (bal hb9' _)) hbb (Below.refl _ _) (H := w9.heap.size + 1) (by simp) HL4.out (by simp)
  rw [← Hy.out, seal16 l, Hy.out] at S16
  refine S16.mono ?_
  rintro e w10 ⟨rfl, hb10⟩
  have hb10' : Below w.heap.size w w10 := bnext (bal hb9' _) hb10
  clear S16 hbb
  go_wp2_with fail
  (refine (awake_any _).mono ?_; rintro e w9 ⟨rfl, hb9⟩; go_wp2_with fail; go_ret; exact ⟨rfl, by repeat (first | exact Below.refl _ _ | assumption | refine below_drewN ?_ _ | refine Below.drew ?_ | refine Below.alloc ?_ (Nat.le_refl _) _ | refine bal ?_ _ | refine bnext ?_ (by assumption))⟩)
end Go.Proofs.Ytjfjkmbokiinbaa
