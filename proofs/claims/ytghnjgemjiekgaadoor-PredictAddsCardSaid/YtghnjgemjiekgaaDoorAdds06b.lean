/-
  jetsamlaw06.PredictAdds: of any input.
-/
import Derived.Test.YtghnjgemjiekgaaDoorAdds06
namespace Go.Proofs.YtghnjgemjiekgaaDoor
open Go.RowKit

set_option maxHeartbeats 400000 in
theorem adds_out (pr sh : Int) (m la lb : Nat) (Ac A B : Option Addr) (cc ca cb : Nat) (w : World) (hF : FixAt w) (hm : m ≤ 9223372036854775807) (ha : la ≤ 9223372036854775807) (hb : lb ≤ 9223372036854775807) (h : 40 < m ∨ (100 < la ∧ 100 < lb)) :
    Calls Tryd.prog 5 #[.agg #[.int .i64 pr, .int .i64 sh, .slice Ac m cc], .slice A la ca, .slice B lb cb] w fun e w' => e = .returned (.bool true) ∧ Below w.heap.size w w' := by
  have HF := Lib.hid hF; clear hF
  by_cases h40 : 40 < m
  · by_cases hi : (lb : Int) < la
    · go_enter Tryd.func5, Tryd.ntmps5
      go_wp2_with fail
      refine (awake_any _ (HF.out.below (by repeat (first | exact Below.refl _ _ | assumption | refine below_drewN ?_ _ | refine Below.drew ?_ | refine Below.alloc ?_ (Nat.le_refl _) _ | refine bal ?_ _ | refine bnext ?_ (by assumption))))).mono ?_
      rintro e w1 ⟨rfl, hb1⟩
      go_wp2_with fail
      go_ret
      exact ⟨rfl, by repeat (first | exact Below.refl _ _ | assumption | refine below_drewN ?_ _ | refine Below.drew ?_ | refine Below.alloc ?_ (Nat.le_refl _) _ | refine bal ?_ _ | refine bnext ?_ (by assumption))⟩
    · go_enter Tryd.func5, Tryd.ntmps5
      go_wp2_with fail
      refine (awake_any _ (HF.out.below (by repeat (first | exact Below.refl _ _ | assumption | refine below_drewN ?_ _ | refine Below.drew ?_ | refine Below.alloc ?_ (Nat.le_refl _) _ | refine bal ?_ _ | refine bnext ?_ (by assumption))))).mono ?_
      rintro e w1 ⟨rfl, hb1⟩
      go_wp2_with fail
      go_ret
      exact ⟨rfl, by repeat (first | exact Below.refl _ _ | assumption | refine below_drewN ?_ _ | refine Below.drew ?_ | refine Below.alloc ?_ (Nat.le_refl _) _ | refine bal ?_ _ | refine bnext ?_ (by assumption))⟩
  · obtain ⟨h1, h2⟩ : 100 < la ∧ 100 < lb := by omega
    by_cases hi : (lb : Int) < la
    · go_enter Tryd.func5, Tryd.ntmps5
      go_wp2_with fail
      refine (awake_any _ (HF.out.below (by repeat (first | exact Below.refl _ _ | assumption | refine below_drewN ?_ _ | refine Below.drew ?_ | refine Below.alloc ?_ (Nat.le_refl _) _ | refine bal ?_ _ | refine bnext ?_ (by assumption))))).mono ?_
      rintro e w1 ⟨rfl, hb1⟩
      go_wp2_with fail
      go_ret
      exact ⟨rfl, by repeat (first | exact Below.refl _ _ | assumption | refine below_drewN ?_ _ | refine Below.drew ?_ | refine Below.alloc ?_ (Nat.le_refl _) _ | refine bal ?_ _ | refine bnext ?_ (by assumption))⟩
    · go_enter Tryd.func5, Tryd.ntmps5
      go_wp2_with fail
      refine (awake_any _ (HF.out.below (by repeat (first | exact Below.refl _ _ | assumption | refine below_drewN ?_ _ | refine Below.drew ?_ | refine Below.alloc ?_ (Nat.le_refl _) _ | refine bal ?_ _ | refine bnext ?_ (by assumption))))).mono ?_
      rintro e w1 ⟨rfl, hb1⟩
      go_wp2_with fail
      go_ret
      exact ⟨rfl, by repeat (first | exact Below.refl _ _ | assumption | refine below_drewN ?_ _ | refine Below.drew ?_ | refine Below.alloc ?_ (Nat.le_refl _) _ | refine bal ?_ _ | refine bnext ?_ (by assumption))⟩
theorem predictAdds_walk (pr sh : Int) (cs la lb : List Int) (Ac A B : Option Addr) (cc ca cb : Nat) (w : World) (hF : FixAt w) (hrc : Rd w Ac (zv cs)) (hra : Rd w A (zv la)) (hrb : Rd w B (zv lb)) (hca : la.length ≤ ca) (hca63 : ca ≤ 9223372036854775807) (hcb : lb.length ≤ cb) (hcb63 : cb ≤ 9223372036854775807) (hm : cs.length ≤ 9223372036854775807) :
    Calls Tryd.prog 5 #[.agg #[.int .i64 pr, .int .i64 sh, .slice Ac cs.length cc], .slice A la.length ca, .slice B lb.length cb] w fun e w' => e = .returned (.bool true) ∧ Below w.heap.size w w' := by
  by_cases h : 40 < cs.length ∨ (100 < la.length ∧ 100 < lb.length)
  · exact adds_out pr sh _ _ _ Ac A B cc ca cb w hF hm (by omega) (by omega) h
  · by_cases hi : (lb.length : Int) < la.length
    · exact adds_b pr sh cs la lb Ac A B cc ca cb w hF hrc hra hrb hca hca63 hcb hcb63 (by omega) (by omega) hi
    · exact adds_a pr sh cs la lb Ac A B cc ca cb w hF hrc hra hrb hca hca63 hcb hcb63 (by omega) (by omega) hi
end Go.Proofs.YtghnjgemjiekgaaDoor
