/-
  The walks over jetsam/sums: Sum8, Sum16, the shifts.
-/
import Derived.Test.YtgohfbfdhdepnaaDoorSums
namespace Go.Proofs.YtgohfbfdhdepnaaDoor.C2
open Go.RowKit

set_option maxHeartbeats 400000 in
theorem eight_any (w : World) :
    Calls Tryd.prog 55 #[] w fun e w' => e = .returned (.agg #[.int .i64 8, .int .i64 7]) ∧ Below w.heap.size w w' := by
  go_enter Tryd.func55, Tryd.ntmps55
  go_wp2_with fail
  exact bodyPost_ret (v := .agg #[.int .i64 8, .int .i64 7]) (by simp [results, Tryd.results55, go_sem]) rfl ⟨rfl, by repeat (first | exact Below.refl _ _ | assumption | refine below_drewN ?_ _ | refine Below.drew ?_ | refine Below.alloc ?_ (Nat.le_refl _) _ | refine bal ?_ _ | refine bnext ?_ (by assumption))⟩

set_option maxHeartbeats 400000 in
theorem Sum8_any (ls : List (List UInt8)) (A : Option Addr) (c : Nat) (w : World) (hv : BSS w (.slice A ls.length c) ls) (hlen : ls.length < 4611686018427387904) (hlens : ∀ l ∈ ls, l.length < 4611686018427387904) :
    Calls Tryd.prog 31 #[.slice A ls.length c] w fun e w' =>
      e = .returned (.int .i64 (crc8 0 ls.flatten)) ∧ Below w.heap.size w w' := by
  have Hv := Lib.hid hv; clear hv
  have Hls := Lib.hid hlens; clear hlens
  go_enter Tryd.func31, Tryd.ntmps31
  go_wp2_with fail
  refine (eight_any _).mono ?_
  rintro e w1 ⟨rfl, hb1⟩
  go_wp2_with fail
  refine (eight_any _).mono ?_
  rintro e w2 ⟨rfl, hb2⟩
  go_wp2_with fail
  refine (of8_any ls A c _ ((Hv.out.below hb1).below hb2) hlen Hls.out).mono ?_
  rintro e w3 ⟨rfl, hb3⟩
  go_wp2_with fail
  go_ret
  exact ⟨rfl, bnext (bnext hb1 hb2) hb3⟩

end Go.Proofs.YtgohfbfdhdepnaaDoor.C2
