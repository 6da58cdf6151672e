/-
  slices.Clone of ints.
-/
import Derived.Test.YtghnjgemjiekgaaDoorRes06
import Derived.WalkSpells
import Derived.Deep.DeepCutAuto
namespace Go.Proofs.YtghnjgemjiekgaaDoor
open Go.RowKit

theorem zv_one (l : List Int) : ∀ u ∈ zv l, u.oneCell' = true := by
  intro u hu
  obtain ⟨x, -, rfl⟩ := List.mem_map.1 hu
  rfl
set_option maxHeartbeats 400000 in
theorem clone_nil (w : World) : Calls Tryd.prog 27 #[.slice none 0 0] w fun e w' => e = .returned (.slice none 0 0) ∧ w' = w := by
  have hq := Go.Lib.run_eql_slice_nil (P := Tryd.prog) w 22 3 none 0 0 0 0 Tryd.underlying22
  go_enter Tryd.func27, Tryd.ntmps27
  go_wp2_with fail
  go_ret
  exact ⟨rfl, rfl⟩
set_option maxHeartbeats 400000 in
theorem clone_some (ys : List Value) (n : Nat) (hyl : ys.length = n) (hone : ∀ u ∈ ys, u.oneCell' = true) (ad : Addr) (c : Nat) (w : World) (hr : Rd w (some ad) ys) (hl : n ≤ 1000000) :
    Calls Tryd.prog 27 #[.slice (some ad) n c] w fun e w' => ∃ v, e = .returned v ∧ Hid (w'.ownsRow w.heap.size 3 1 v n ys) ∧ Below w.heap.size w w' := by
  have Hr := Lib.hid hr; clear hr
  have Hvl := Lib.hid hyl; clear hyl
  have Hone := Lib.hid hone; clear hone
  have hq := Go.Lib.run_eql_slice_nil (P := Tryd.prog) w 22 3 (some ad) n c 0 0 Tryd.underlying22
  go_enter Tryd.func27, Tryd.ntmps27
  go_upto_region 3 with fail
  apply wp_region_lit
  go_step
  go_step
  have Hown : Hid ((w.alloc (.cells #[] 3)).ownsRow w.heap.size 3 1 (.slice (some ⟨w.heap.size, 0, none⟩) 0 0) 0 []) := ⟨rfl, .inr ⟨w.heap.size, 0, #[], rfl, Nat.le_refl _, heap_alloc_last w _, Nat.le_refl _, by decide, rfl, rfl⟩⟩
  go_wp2_with (at_builtin; refine appN (w0 := w) (base := w.heap.size) rfl _ _ 22 rfl Tryd.underlying22 info_int rfl rfl Hown.out (Nat.le_refl _) (by simp) (by repeat (first | exact Below.refl _ _ | assumption | refine below_drewN ?_ _ | refine Below.drew ?_ | refine Below.alloc ?_ (Nat.le_refl _) _ | refine bal ?_ _ | refine bnext ?_ (by assumption))) rfl (Hr.out.alloc _) Hvl.out (fun h => by cases h) Hone.out (by omega) (by unfold maxLen; omega) ?_; intro v1 w6 own1 hb6 hs6 hnil6; have Hown1 := Lib.hid own1; have Hb6 := Lib.hid hb6; clear own1 hb6 hnil6)
  go_ret
  refine ⟨_, rfl, ?_, Hb6.out⟩
  have h := Hown1.out
  rw [Nat.zero_add, List.nil_append] at h
  exact h
end Go.Proofs.YtghnjgemjiekgaaDoor
