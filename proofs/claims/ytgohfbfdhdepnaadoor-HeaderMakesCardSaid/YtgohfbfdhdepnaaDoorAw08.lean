/-
  jetsamlaw08.awake.
-/
import Derived.Test.YtgohfbfdhdepnaaDoorMake08
import Derived.Test.YtgohfbfdhdepnaaDoorWrite08
namespace Go.Proofs.YtgohfbfdhdepnaaDoor
open Go.RowKit

def awH : Hd := ⟨false, 12, 9, 10, 4, 0, 4096, 44100, 16⟩
theorem awE : mkE false 0 4096 10 44100 2 16 = 0 := by decide +kernel
theorem awR : mkR false 0 4096 10 44100 2 16 = awH := by unfold mkR; rw [if_pos awE]; kernel_rfl
theorem awC : chkE awH = 0 := by decide +kernel
theorem awL : (hdB awH).length = 6 := by decide +kernel
theorem awT : (hdB awH).take 5 = [255, 248, 201, 168, 0] := by decide +kernel
theorem awB : ¬ badM 4096 44100 16 := by decide +kernel

set_option maxRecDepth 100000 in
set_option maxHeartbeats 2000000 in
theorem awake_any (w : World) (ht : HTabs w) : Calls Tryd.prog 12 #[] w fun e w' => e = .returned (.bool true) ∧ Below w.heap.size w w' := by
  have HT := Lib.hid ht
  have HM := Lib.hid (fun W (hb : Below w.heap.size w W) => Make_any false 0 4096 10 44100 2 16 awB W (ht.below hb))
  have HW := Lib.hid (fun W (hb : Below w.heap.size w W) => Write_ok awH (by decide) awC W (ht.below hb))
  rw [awE, awR] at HM
  rw [awL] at HW
  simp only [Hd.val, awH] at HM
  have HWv : Hid (∀ W, Below w.heap.size w W → Calls Tryd.prog 10 #[.agg #[.bool false, .int .i64 12, .int .i64 9, .int .i64 10, .int .i64 4, .int .i64 0, .int .i64 4096, .int .i64 44100, .int .i64 16]] W fun e w' => ∃ v, e = .returned (.tuple #[v, .int .i64 0]) ∧ Hid (w'.ownsRow W.heap.size 5 1 v 6 (bv (hdB awH))) ∧ Below W.heap.size W w') := HW.out
  clear HW ht
  have HT5 : Hid ((hdB awH).take 5 = [255, 248, 201, 168, 0]) := awT
  have HL : Hid ((hdB awH).length = 6) := awL
  generalize hdB awH = F at *
  go_enter Tryd.func12, Tryd.ntmps12
  go_wp2_with fail
  refine (HM.out _ (Below.refl _ _)).mono ?_
  rintro e w1 ⟨rfl, hb1⟩
  clear HM
  go_wp2_with fail
  refine (HWv.out _ (bal hb1 _)).mono ?_
  rintro e w2 ⟨v, rfl, Hown, hb2⟩
  obtain ⟨A, c, rfl, hc, hc63, hr, hn⟩ := own_rd4 Hown.out
  have hb3 : Below w.heap.size w w2 := bnext (bal hb1 _) hb2
  have hr5 : Rd w2 A (bv [255, 248, 201, 168, 0]) := by
    have h := hr.take 5
    rw [show (bv F).take 5 = bv (F.take 5) from by simp [bv], HT5.out] at h
    exact h
  clear HWv hb1 hb2 Hown hr hn
  have hc5 : 5 ≤ c := by omega
  go_wp2_with fail
  have h := Rd.new w2 #[.int .u8 255, .int .u8 248, .int .u8 201, .int .u8 168, .int .u8 0] 5
  refine (bytes_any [255, 248, 201, 168, 0] [255, 248, 201, 168, 0] A _ c 5 _ (hr5.alloc _) h (by decide)).mono ?_
  rintro e w4 ⟨rfl, hb4⟩
  have hb5 : Below w.heap.size w w4 := bnext (bal hb3 _) hb4
  go_wp2_with fail
  go_ret
  exact ⟨rfl, hb5⟩
end Go.Proofs.YtgohfbfdhdepnaaDoor
