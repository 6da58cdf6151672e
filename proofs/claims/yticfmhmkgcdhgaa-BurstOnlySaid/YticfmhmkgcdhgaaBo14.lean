/-
  slices.Clone of bytes.
-/
import Derived.Test.YticfmhmkgcdhgaaRows
import Derived.Test.YticfmhmkgcdhgaaBo12
import Derived.Test.YticfmhmkgcdhgaaBo13
import Derived.WalkSpells
import Derived.Deep.QuietTactic
import Derived.BigQuiet
import Derived.Deep.RegionHeld3
import Derived.Deep.DeepCutAuto
import Derived.OwnWalk
import Derived.KernelRfl
import Derived.Test.YticfmhmkgcdhgaaBo8
set_option linter.unusedSimpArgs false
set_option linter.unusedVariables false
namespace Go.Proofs.Yticfmhmkgcdhgaa
open Go.RowKit

theorem info_u8 : (Try.prog.info? 5).map (fun i => (i.zero, i.size, i.bytes)) = some (some (.int .u8 0), 1, 1) := by kernel_rfl
theorem bv_one (l : List UInt8) : ∀ u ∈ bv l, u.oneCell' = true := by
  intro u hu
  obtain ⟨x, -, rfl⟩ := List.mem_map.1 hu
  rfl
set_option maxHeartbeats 400000 in
theorem clone_nil (w : World) : Calls Try.prog 31 #[.slice none 0 0] w fun e w' => e = .returned (.slice none 0 0) ∧ w' = w := by
  have hq := Go.Lib.run_eql_slice_nil (P := Try.prog) w 22 5 none 0 0 0 0 Try.underlying22
  go_enter Try.func31, Try.ntmps31
  go_wp2_with fail
  go_ret
  exact ⟨rfl, rfl⟩
set_option maxHeartbeats 400000 in
theorem clone_some (ys : List Value) (n : Nat) (hyl : ys.length = n) (hone : ∀ u ∈ ys, u.oneCell' = true) (ad : Addr) (c : Nat) (w : World) (hr : Rd w (some ad) ys) (hl : n ≤ 140737488355328) :
    Calls Try.prog 31 #[.slice (some ad) n c] w fun e w' => ∃ v, e = .returned v ∧ Hid (w'.ownsRow w.heap.size 5 1 v n ys) ∧ Below w.heap.size w w' := by
  have Hr := Lib.hid hr; clear hr
  have Hvl := Lib.hid hyl; clear hyl
  have Hone := Lib.hid hone; clear hone
  have hq := Go.Lib.run_eql_slice_nil (P := Try.prog) w 22 5 (some ad) n c 0 0 Try.underlying22
  go_enter Try.func31, Try.ntmps31
  go_upto_region 3 with fail
  apply wp_region_lit
  go_step
  go_step
  have Hown : Hid ((w.alloc (.cells #[] 5)).ownsRow w.heap.size 5 1 (.slice (some ⟨w.heap.size, 0, none⟩) 0 0) 0 []) := ⟨rfl, .inr ⟨w.heap.size, 0, #[], rfl, Nat.le_refl _, heap_alloc_last w _, Nat.le_refl _, by decide, rfl, rfl⟩⟩
  go_wp2_with (at_builtin; refine appN (w0 := w) (base := w.heap.size) rfl _ _ 22 rfl Try.underlying22 info_u8 rfl rfl Hown.out (Nat.le_refl _) (by simp) (by repeat (first | exact Below.refl _ _ | assumption | refine below_drewN ?_ _ | refine Below.drew ?_ | refine Below.alloc ?_ (Nat.le_refl _) _ | refine bal ?_ _ | refine bnext ?_ (by assumption))) rfl (Hr.out.alloc _) Hvl.out (fun h => by cases h) Hone.out (by omega) (by unfold maxLen; omega) ?_; intro v1 w6 own1 hb6 hs6 hnil6; have Hown1 := Lib.hid own1; have Hb6 := Lib.hid hb6; clear own1 hb6 hnil6)
  go_ret
  refine ⟨_, rfl, ?_, Hb6.out⟩
  have h := Hown1.out
  rw [Nat.zero_add, List.nil_append] at h
  exact h
theorem own_rd4 {w : World} {base : Nat} {e : TypeId} {v : Value} {n : Nat} {xs : List Value} (h : w.ownsRow base e 1 v n xs) :
    ∃ A c, v = .slice A n c ∧ n ≤ c ∧ c ≤ 9223372036854775807 ∧ Rd w A xs ∧ (A = none → n = 0 ∧ c = 0) := by
  obtain ⟨A, c, rfl, hc, hr⟩ := own_rd h
  refine ⟨A, c, rfl, hc, ?_, hr, ?_⟩
  · rcases h.2 with ⟨e, hn⟩ | ⟨g, cap, cur, e, hb, hg, hn, hm, hs, ht⟩
    · injection e with e1 e2 e3; omega
    · injection e with e1 e2 e3; subst e3; unfold maxLen at hm; omega
  · rintro rfl
    rcases h.2 with ⟨e, hn⟩ | ⟨g, cap, cur, e, hb, hg, hn, hm, hs, ht⟩
    · injection e with e1 e2 e3; exact ⟨e2, e3⟩
    · injection e with e1 e2 e3; cases e1
theorem clone_any (l : List UInt8) (A : Option Addr) (c : Nat) (w : World) (hr : Rd w A (bv l)) (hl : l.length ≤ 140737488355328) (hn : A = none → l.length = 0 ∧ c = 0) :
    Calls Try.prog 31 #[.slice A l.length c] w fun e w' => ∃ v, e = .returned v ∧ Hid (w'.ownsRow w.heap.size 5 1 v l.length (bv l)) ∧ Below w.heap.size w w' := by
  cases A with
  | none =>
    obtain ⟨h1, rfl⟩ := hn rfl
    obtain rfl := List.eq_nil_of_length_eq_zero h1
    refine (clone_nil w).mono ?_
    rintro e w' ⟨rfl, rfl⟩
    exact ⟨_, rfl, World.ownsRow_nil _ _ _ 1, Below.refl _ _⟩
  | some ad => exact clone_some (bv l) l.length (by simp [bv]) (bv_one _) ad c w hr hl
end Go.Proofs.Yticfmhmkgcdhgaa
