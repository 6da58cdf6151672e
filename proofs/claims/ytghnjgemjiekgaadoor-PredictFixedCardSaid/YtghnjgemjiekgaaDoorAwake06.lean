/-
  jetsamlaw06.awake; Residual of any input.
-/
import Derived.Test.YtghnjgemjiekgaaDoorRRes06
namespace Go.Proofs.YtghnjgemjiekgaaDoor
open Go.RowKit

theorem Residual_all (pr sh : Int) (cs ls : List Int) (Ac A : Option Addr) (cc c : Nat) (w : World) (hrc : Rd w Ac (zv cs)) (hrl : Rd w A (zv ls)) (hcl : cs.length ≤ 1000000) (hl2 : ls.length ≤ 1000000) (hcap : ls.length ≤ c) (hcap63 : c ≤ 9223372036854775807) :
    Calls Tryd.prog 9 #[.agg #[.int .i64 pr, .int .i64 sh, .slice Ac cs.length cc], .slice A ls.length c] w fun e w' => ∃ v, e = .returned (.tuple #[v, .int .i64 (resE pr sh cs ls)]) ∧ Hid (w'.ownsRow w.heap.size 3 1 v (resL pr sh cs ls).length (zv (resL pr sh cs ls))) ∧ Below w.heap.size w w' := by
  by_cases hE : resE pr sh cs ls = 0
  · have e : resL pr sh cs ls = resN cs sh.toNat ls := if_pos hE
    rw [hE, e]
    exact Residual_ok pr sh cs ls Ac A cc c w hrc hrl hl2 hcap hcap63 hE
  · have e : resL pr sh cs ls = [] := if_neg hE
    refine (Residual_no pr sh cs ls Ac A cc c w hrc hrl (by omega) (by omega) hE).mono ?_
    rintro e' w' ⟨rfl, hb⟩
    exact ⟨_, rfl, by rw [e]; exact World.ownsRow_nil _ _ _ 1, hb⟩

set_option maxHeartbeats 1000000 in
theorem awake_any (w : World) (hF : FixAt w) :
    Calls Tryd.prog 8 #[] w fun e w' => e = .returned (.bool true) ∧ Below w.heap.size w w' := by
  have HF := Lib.hid hF; clear hF
  go_enter Tryd.func8, Tryd.ntmps8
  go_wp2_with fail
  refine (Fixed_2 _ HF.out).mono ?_
  rintro e w1 ⟨A, c, rfl, hcc, hrd, hb1⟩
  have Hrd := Lib.hid (hrd.alloc (.cells #[.int .i64 4, .int .i64 0, .slice A 2 c] 24))
  have hb2 := bal hb1 (.cells #[.int .i64 4, .int .i64 0, .slice A 2 c] 24)
  have hb1' := hb1
  clear hrd hb1
  go_wp2_with fail
  have hR : Hid (Calls Tryd.prog 9 #[.agg #[.int .i64 4, .int .i64 0, .slice A 2 c], .slice (some ⟨w1.heap.size + 1, 0, none⟩) 4 4] ((w1.alloc (.cells #[.int .i64 4, .int .i64 0, .slice A 2 c] 24)).alloc (.cells #[.int .i64 3, .int .i64 5, .int .i64 9, .int .i64 15] 3)) fun e w' => ∃ v, e = .returned (.tuple #[v, .int .i64 0]) ∧ Hid (w'.ownsRow (w1.heap.size + 2) 3 1 v 2 (zv [2, 2])) ∧ Below w.heap.size w w') := by
    have h := Residual_all 4 0 (fixC 2) [3, 5, 9, 15] A (some ⟨w1.heap.size + 1, 0, none⟩) c 4 ((w1.alloc (.cells #[.int .i64 4, .int .i64 0, .slice A 2 c] 24)).alloc (.cells #[.int .i64 3, .int .i64 5, .int .i64 9, .int .i64 15] 3)) (Hrd.out.alloc _) (by
      have h := Rd.new (w1.alloc (.cells #[.int .i64 4, .int .i64 0, .slice A 2 c] 24)) #[.int .i64 3, .int .i64 5, .int .i64 9, .int .i64 15] 3
      rw [World.size_alloc] at h
      exact h) (by decide) (by decide) (by decide) (by decide)
    rw [show resE 4 0 (fixC 2) [3, 5, 9, 15] = 0 from by decide, show resL 4 0 (fixC 2) [3, 5, 9, 15] = [2, 2] from by decide] at h
    refine h.mono ?_
    rintro e w' ⟨v, rfl, hown, hb⟩
    exact ⟨v, rfl, by simpa using hown, bnext (bal hb2 _) hb⟩
  refine hR.out.mono ?_
  rintro e w3 ⟨v, rfl, Hown, hb3⟩
  obtain ⟨A3, c3, rfl, hc3, hr3⟩ := own_rd Hown.out
  have Hr3 := Lib.hid hr3
  clear hr3 Hown hR Hrd hb2 hb1'
  go_wp2_with fail
  refine (ints_any [2, 2] [2, 2] A3 (some ⟨w3.heap.size, 0, none⟩) c3 2 _ (Hr3.out.alloc _) (Rd.new w3 #[.int .i64 2, .int .i64 2] 3) (by decide)).mono ?_
  rintro e w4 ⟨rfl, hb4⟩
  have hb5 := bnext (bal hb3 _) hb4
  rw [show decide (([2, 2] : List Int) = [2, 2]) = true from by decide]
  go_wp2_with fail
  refine (Best_any [3, 5, 9, 15] (some ⟨w4.heap.size, 0, none⟩) 4 _ (HF.out.below (bal hb5 _)) (Rd.new w4 #[.int .i64 3, .int .i64 5, .int .i64 9, .int .i64 15] 3) (by decide) (by decide) (by decide)).mono ?_
  rintro e w5 ⟨rfl, hb6⟩
  have hb7 := bnext (bal hb5 _) hb6
  rw [show bestV [3, 5, 9, 15] = 3 from by decide]
  go_wp2_with fail
  go_ret
  exact ⟨rfl, hb7⟩
end Go.Proofs.YtghnjgemjiekgaaDoor
