/-
  jetsamlaw02.awake: the chapter's examples hold.
-/
import Derived.Test.YtjfjkmbokiinbaaSums2
namespace Go.Proofs.Ytjfjkmbokiinbaa
open Go.RowKit

set_option maxHeartbeats 800000 in
theorem awake_any (w : World) :
    Calls Try.prog 9 #[] w fun e w' => e = .returned (.bool true) ∧ Below w.heap.size w w' := by
  go_enter Try.func9, Try.ntmps9
  go_wp2_with fail
  refine (Sum8_any [[1]] _ _ _ ?hv1 (by decide) (by decide)).mono ?_
  case hv1 => exact BSS.one (BS.new w [1] #[.int .u8 1] _ 1 rfl rfl (by simp)) _ (by simp)
  rintro e w1 ⟨rfl, hb1⟩
  have h1 : Below w.heap.size w w1 := bnext (by repeat (first | exact Below.refl _ _ | assumption | refine below_drewN ?_ _ | refine Below.drew ?_ | refine Below.alloc ?_ (Nat.le_refl _) _ | refine bal ?_ _ | refine bnext ?_ (by assumption))) hb1
  rw [show crc8 0 [[1]].flatten = 7 from by decide +kernel]
  go_wp2_with fail
  refine (Sum8_any [[1], [7]] _ _ _ ?hv2 (by decide) (by decide)).mono ?_
  case hv2 => exact BSS.two ((BS.new w1 [1] #[.int .u8 1] _ 1 rfl rfl (by simp)).alloc _) (BS.new _ [7] #[.int .u8 7] _ 1 rfl rfl (by simp)) _ (by simp)
  rintro e w2 ⟨rfl, hb2⟩
  have h2 : Below w.heap.size w w2 := bnext (by repeat (first | exact Below.refl _ _ | assumption | refine below_drewN ?_ _ | refine Below.drew ?_ | refine Below.alloc ?_ (Nat.le_refl _) _ | refine bal ?_ _ | refine bnext ?_ (by assumption))) hb2
  rw [show crc8 0 [[1], [7]].flatten = 0 from by decide +kernel]
  go_wp2_with fail
  refine (Sum16_any [[1]] _ _ _ ?hv3 (by decide) (by decide)).mono ?_
  case hv3 => exact BSS.one (BS.new w2 [1] #[.int .u8 1] _ 1 rfl rfl (by simp)) _ (by simp)
  rintro e w3 ⟨rfl, hb3⟩
  have h3 : Below w.heap.size w w3 := bnext (by repeat (first | exact Below.refl _ _ | assumption | refine below_drewN ?_ _ | refine Below.drew ?_ | refine Below.alloc ?_ (Nat.le_refl _) _ | refine bal ?_ _ | refine bnext ?_ (by assumption))) hb3
  rw [show crc16 0 [[1]].flatten = 32773 from by decide +kernel]
  go_wp2_with fail
  go_ret
  exact ⟨rfl, h3⟩
end Go.Proofs.Ytjfjkmbokiinbaa
