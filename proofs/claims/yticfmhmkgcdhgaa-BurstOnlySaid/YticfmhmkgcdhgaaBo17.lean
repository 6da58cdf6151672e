/-
  jetsamlaw18.sealed: bytes, and their sum behind them.
-/
import Derived.Test.YticfmhmkgcdhgaaBo5
import Derived.Test.YticfmhmkgcdhgaaBo16
set_option linter.unusedSimpArgs false
set_option linter.unusedVariables false
namespace Go.Proofs.Yticfmhmkgcdhgaa
open Go.RowKit
open Crc (bits8 bitsOf bits8_le bitsOf_le)

theorem seal_row (y : Nat) (hy : y < 65536) : ([Value.int .u8 ((y : Int) / 256), .int .u8 ((y : Int) % 256)] : List Value) = bv [UInt8.ofNat (y / 256), UInt8.ofNat y] := by
  simp [bv]
  omega
set_option maxRecDepth 100000 in
set_option maxHeartbeats 1600000 in
theorem sealed_any (l : List UInt8) (A : Option Addr) (c : Nat) (w : World) (hr : Rd w A (bv l)) (hlen : l.length ≤ 1000) (hn : A = none → c = 0) :
    Calls Try.prog 19 #[.slice A l.length c] w fun e w' =>
      ∃ v, e = .returned v ∧ w'.ownsRow w.heap.size 5 1 v (l.length + 2) (bv (sealL l)) ∧ Below w.heap.size w w' := by
  have Hr := Lib.hid hr; clear hr
  have Hn := Lib.hid hn; clear hn
  have Hone := Lib.hid (bv_one l)
  have Hlt := Lib.hid (crc16_lt 0 (by decide) l)
  have Hs : Hid (bv (sealL l) = bv l ++ [Value.int .u8 ((crc16 0 l : Nat) / 256), .int .u8 ((crc16 0 l : Nat) % 256)]) := by
    show _ = _
    rw [seal_row _ Hlt.out, ← bv_append]; rfl
  have Hlen := Lib.hid (bv_length l)
  go_enter Try.func19, Try.ntmps19
  go_wp2_with fail
  refine (Bits_any l A c _ Hr.out (by omega)).mono ?_
  rintro e w1 ⟨v, rfl, hown, hb1⟩
  obtain ⟨A1, c1, rfl, hc1, hr1⟩ := own_rd hown
  go_wp2_with fail
  rw [← bitsOf_length]
  refine (Sum_any (bitsOf l) (bitsOf_le l) A1 c1 _ hr1 (by rw [bitsOf_length]; omega)).mono ?_
  rintro e w2 ⟨rfl, hb2⟩
  rw [lft_eq]
  have hb3 : Below w.heap.size w w2 := bnext hb1 hb2
  clear hown hr1 hb1 hb2 hc1
  generalize crc16 0 l = y at *
  have hy := Hlt.out
  have Hr2 := Lib.hid (Hr.out.below hb3)
  have hsz := hb3.size
  have HO := Lib.hid (World.ownsRow_nil w2 w.heap.size 5 1)
  go_upto_region 4 with (at_builtin; refine appN (w0 := w) (base := w.heap.size) rfl _ _ 22 rfl Try.underlying22 info_u8 rfl rfl HO.out (Nat.le_refl _) hsz hb3 rfl Hr2.out Hlen.out Hn.out Hone.out (by omega) (by unfold maxLen; omega) ?_; intro v1 w6 own1 hb6 hs6 hnil6; rw [List.nil_append] at own1; have Hown1 := Lib.hid own1; have Hb6 := Lib.hid hb6; clear own1 hb6 hnil6)
  have Hr6 : Hid (Rd (w6.alloc (.cells #[.int .u8 ((y : Int) / 256), .int .u8 ((y : Int) % 256)] 5)) (some ⟨w6.heap.size, 0, none⟩) [Value.int .u8 ((y : Int) / 256), .int .u8 ((y : Int) % 256)]) := Rd.new w6 _ _
  have hs7 : w.heap.size ≤ (w6.alloc (.cells #[.int .u8 ((y : Int) / 256), .int .u8 ((y : Int) % 256)] 5)).heap.size := by simp; omega
  have H16 : Hid (∀ u ∈ [Value.int .u8 ((y : Int) / 256), .int .u8 ((y : Int) % 256)], u.oneCell' = true) := by
    intro u hu
    simp at hu
    rcases hu with rfl | rfl <;> rfl
  go_wp2_with (at_builtin; refine appN (w0 := w) (base := w.heap.size) (m := 2) rfl _ _ 22 rfl Try.underlying22 info_u8 rfl rfl (Hown1.out.alloc _) (Nat.le_refl _) hs7 (bal Hb6.out _) rfl Hr6.out rfl (fun h => by cases h) H16.out (by omega) (by unfold maxLen; omega) ?_; intro v2 w7 own2 hb7 hs7 hnil7; have Hown2 := Lib.hid own2; have Hb7 := Lib.hid hb7; clear own2 hb7 hnil7)
  go_ret
  refine ⟨_, rfl, ?_, Hb7.out⟩
  rw [Hs.out]
  have h := Hown2.out
  rw [Nat.zero_add] at h
  exact h
end Go.Proofs.Yticfmhmkgcdhgaa
