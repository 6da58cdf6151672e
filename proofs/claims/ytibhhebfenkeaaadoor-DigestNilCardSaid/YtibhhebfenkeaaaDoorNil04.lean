/-
  jetsamlaw04.DigestNil: its walk.
-/
import Derived.Test.YtibhhebfenkeaaaDoorAw04
namespace Go.Proofs.YtibhhebfenkeaaaDoor
open Go.RowKit

set_option maxRecDepth 100000 in
set_option maxHeartbeats 4000000 in
theorem nil_walk (n c : Nat) (A : Option Addr) (w : World) (ht : Tabs w) :
    Calls Tryd.prog 7 #[.slice A n c] w fun e w' => e = .returned (.bool true) ∧ Below w.heap.size w w' := by
  have HT := Lib.hid ht
  clear ht
  by_cases h1 : (n : Int) > 100
  · go_enter Tryd.func7, Tryd.ntmps7
    go_wp2_with fail
    refine (awake_any _ HT.out).mono ?_
    rintro e w9 ⟨rfl, hb9⟩
    go_wp2_with fail
    go_ret
    exact ⟨rfl, hb9⟩
  have hb0 : Below w.heap.size w (w.alloc (.cells #[.slice A n c] 22)) := bal (Below.refl _ _) _
  have Hb0 := Lib.hid hb0
  clear hb0
  go_enter Tryd.func7, Tryd.ntmps7
  go_wp2_with fail
  refine (AddN_any _ _ _ _).mono ?_
  rintro e w1 ⟨rfl, rfl⟩
  have Hb1 := Hb0
  generalize w.alloc (.cells #[.slice A n c] 22) = w1 at *
  have HS := Lib.hid (DSumN_any [] rfl w1 (HT.out.below Hb1.out))
  go_wp2_with fail
  refine HS.out.mono ?_
  rintro e w2 ⟨rfl, hb2⟩
  have Hb2 := Lib.hid (bnext Hb1.out hb2)
  have HF := Lib.hid (FSum_any [] none 0 w2 ⟨[], rfl, (fun j v hv => by simp at hv), fun j x y hx => by simp at hx⟩ (by simp) (by simp) (HT.out.below Hb2.out))
  rw [List.flatten_nil] at HF
  clear HS hb2
  go_wp2_with fail
  refine HF.out.mono ?_
  rintro e w3 ⟨rfl, hb3⟩
  have Hb3 := Lib.hid (bnext Hb2.out hb3)
  clear HF hb3
  go_wp2_with (refine wpList_plain rfl fun K hK => wp_bin .eql 24 _ _ _ rfl rfl rfl (by kernel_rfl) (eql16 _ _) (hK _ _ ?_))
  refine (LenN_any _).mono ?_
  rintro e w4 ⟨rfl, rfl⟩
  go_wp2_with fail
  refine (awake_any _ (HT.out.below Hb3.out)).mono ?_
  rintro e w9 ⟨rfl, hb9⟩
  have hb10 := bnext Hb3.out hb9
  go_wp2_with fail
  go_ret
  exact ⟨rfl, hb10⟩
end Go.Proofs.YtibhhebfenkeaaaDoor
