/-
  predict.Check.
-/
import Derived.Test.YtghnjgemjiekgaaDoorPred
namespace Go.Proofs.YtghnjgemjiekgaaDoor
open Go.RowKit

def chkP : Bool → Int
  | true => 0
  | false => 10
/-- May a prediction be? -/
def numB (pr sh : Int) (n : Nat) : Bool := decide (n ≤ 32) && decide (1 ≤ pr ∧ pr ≤ 15) && decide (0 ≤ sh ∧ sh ≤ 15)
def okL (pr sh : Int) (cs : List Int) : Bool := numB pr sh cs.length && !cs.any (outC (2 ^ (pr - 1).toNat))
theorem pow_bd (e : Nat) (h : e ≤ 14) : (0 : Int) ≤ 2 ^ e ∧ (2 : Int) ^ e ≤ 16384 := by
  have h1 : 2 ^ e ≤ 2 ^ 14 := Nat.pow_le_pow_right (by omega) h
  have h2 : ((2 ^ e : Nat) : Int) = (2 : Int) ^ e := by simp
  rw [← h2]
  exact ⟨Int.natCast_nonneg _, Int.ofNat_le.2 h1⟩

set_option maxHeartbeats 1000000 in
theorem Check_any (pr sh : Int) (cs : List Int) (A : Option Addr) (cc : Nat) (w : World) (hr : Rd w A (zv cs)) (hl : cs.length ≤ 9223372036854775807) :
    Calls Tryd.prog 12 #[.agg #[.int .i64 pr, .int .i64 sh, .slice A cs.length cc]] w fun e w' => e = .returned (.int .i64 (chkP (okL pr sh cs))) ∧ Below w.heap.size w w' := by
  by_cases h1 : cs.length ≤ 32
  · by_cases h2 : 1 ≤ pr
    · by_cases h3 : pr ≤ 15
      · by_cases h4 : 0 ≤ sh
        · by_cases h5 : sh ≤ 15
          · obtain ⟨e, he⟩ : ∃ e : Nat, pr = (e : Int) + 1 := ⟨(pr - 1).toNat, by omega⟩
            subst he
            have he : e ≤ 14 := by omega
            have hb := pow_bd e he
            have Hok : Hid (okL ((e : Int) + 1) sh cs = !cs.any (outC (2 ^ e))) := by
              show _ = _
              have e1 : ((e : Int) + 1 - 1).toNat = e := by omega
              unfold okL numB
              rw [decide_eq_true h1, decide_eq_true ⟨h2, h3⟩, decide_eq_true ⟨h4, h5⟩, e1]; simp
            have HC : Hid (∀ (g : Nat) (W : World), Below w.heap.size w W → W.cell? ⟨g, 0, none⟩ = some (.int .i64 (2 ^ e)) → _) := Lib.hid fun g W hW hg => containsC cs A cc W (hr.below hW) ⟨hb, hg⟩ hl
            rw [Hok.out]
            generalize cs.any (outC (2 ^ e)) = r at *
            clear hr
            generalize cs.length = n at *
            go_enter Tryd.func12, Tryd.ntmps12
            go_wp2_with fail
            refine (HC.out (w.heap.size + 1) _ (by repeat (first | exact Below.refl _ _ | assumption | refine below_drewN ?_ _ | refine Below.drew ?_ | refine Below.alloc ?_ (Nat.le_refl _) _ | refine bal ?_ _ | refine bnext ?_ (by assumption))) (by go_simp)).mono ?_
            rintro e2 w' ⟨rfl, rfl⟩
            cases r with
            | true =>
              go_wp2_with fail
              go_ret
              exact ⟨rfl, by repeat (first | exact Below.refl _ _ | assumption | refine below_drewN ?_ _ | refine Below.drew ?_ | refine Below.alloc ?_ (Nat.le_refl _) _ | refine bal ?_ _ | refine bnext ?_ (by assumption))⟩
            | false =>
              go_wp2_with fail
              go_ret
              exact ⟨rfl, by repeat (first | exact Below.refl _ _ | assumption | refine below_drewN ?_ _ | refine Below.drew ?_ | refine Below.alloc ?_ (Nat.le_refl _) _ | refine bal ?_ _ | refine bnext ?_ (by assumption))⟩
          · have Hok : Hid (okL pr sh cs = false) := by
              show _ = _
              unfold okL numB
              rw [decide_eq_false (show ¬ (0 ≤ sh ∧ sh ≤ 15) from fun h => h5 h.2)]; simp
            rw [Hok.out]
            clear hr Hok
            generalize cs.length = n at *
            go_enter Tryd.func12, Tryd.ntmps12
            go_wp2_with fail
            go_ret
            exact ⟨rfl, by repeat (first | exact Below.refl _ _ | assumption | refine below_drewN ?_ _ | refine Below.drew ?_ | refine Below.alloc ?_ (Nat.le_refl _) _ | refine bal ?_ _ | refine bnext ?_ (by assumption))⟩
        · have Hok : Hid (okL pr sh cs = false) := by
            show _ = _
            unfold okL numB
            rw [decide_eq_false (show ¬ (0 ≤ sh ∧ sh ≤ 15) from fun h => h4 h.1)]; simp
          rw [Hok.out]
          clear hr Hok
          generalize cs.length = n at *
          go_enter Tryd.func12, Tryd.ntmps12
          go_wp2_with fail
          go_ret
          exact ⟨rfl, by repeat (first | exact Below.refl _ _ | assumption | refine below_drewN ?_ _ | refine Below.drew ?_ | refine Below.alloc ?_ (Nat.le_refl _) _ | refine bal ?_ _ | refine bnext ?_ (by assumption))⟩
      · have Hok : Hid (okL pr sh cs = false) := by
          show _ = _
          unfold okL numB
          rw [decide_eq_false (show ¬ (1 ≤ pr ∧ pr ≤ 15) from fun h => h3 h.2)]; simp
        rw [Hok.out]
        clear hr Hok
        generalize cs.length = n at *
        go_enter Tryd.func12, Tryd.ntmps12
        go_wp2_with fail
        go_ret
        exact ⟨rfl, by repeat (first | exact Below.refl _ _ | assumption | refine below_drewN ?_ _ | refine Below.drew ?_ | refine Below.alloc ?_ (Nat.le_refl _) _ | refine bal ?_ _ | refine bnext ?_ (by assumption))⟩
    · have Hok : Hid (okL pr sh cs = false) := by
        show _ = _
        unfold okL numB
        rw [decide_eq_false (show ¬ (1 ≤ pr ∧ pr ≤ 15) from fun h => h2 h.1)]; simp
      rw [Hok.out]
      clear hr Hok
      generalize cs.length = n at *
      go_enter Tryd.func12, Tryd.ntmps12
      go_wp2_with fail
      go_ret
      exact ⟨rfl, by repeat (first | exact Below.refl _ _ | assumption | refine below_drewN ?_ _ | refine Below.drew ?_ | refine Below.alloc ?_ (Nat.le_refl _) _ | refine bal ?_ _ | refine bnext ?_ (by assumption))⟩
  · have Hok : Hid (okL pr sh cs = false) := by
      show _ = _
      unfold okL numB
      rw [decide_eq_false (h1)]; simp
    rw [Hok.out]
    clear hr Hok
    generalize cs.length = n at *
    go_enter Tryd.func12, Tryd.ntmps12
    go_wp2_with fail
    go_ret
    exact ⟨rfl, by repeat (first | exact Below.refl _ _ | assumption | refine below_drewN ?_ _ | refine Below.drew ?_ | refine Below.alloc ?_ (Nat.le_refl _) _ | refine bal ?_ _ | refine bnext ?_ (by assumption))⟩
end Go.Proofs.YtghnjgemjiekgaaDoor
