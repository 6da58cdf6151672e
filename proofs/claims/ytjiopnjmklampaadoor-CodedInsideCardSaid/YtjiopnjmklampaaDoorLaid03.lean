/-
  What the row's condition on coded.limits gives the walks; the door's own heap meets it.
-/
import Derived.Test.YtjiopnjmklampaaDoorCoded
import Derived.ProofKit
import Derived.LaidMore
import Derived.OpenShut
import Derived.Stop.Joined
import Derived.Lib.LaidTab
namespace Go.Proofs.YtjiopnjmklampaaDoor
open Go.ChangeShapes Go.WideShapes Go.ChangeAt Go.RowKit

def laidL : List (String × DataW Unit) := [("jetsam/coded.limits", Rows.laid_jetsam_coded_limits)]
theorem gLim : Tryd.prog.globalNamed "jetsam/coded.limits" = some 0 := by kernel_rfl
theorem tLim : (Tryd.prog.globals[0]?).map (·.type) = some 37 := by kernel_rfl
/-- The door's own heap meets the condition. -/
theorem door_met (os : Os) (args : Array Value) : laidMetH Tryd.prog laidL ((World.doorLaid Tryd.prog 14 os).forCall (fun _ _ => 0) ⟨#[], args, []⟩).memory :=
  laidMetH_of_parts3 (fuel := 8) (laidMet_of_run' 8 (by kernel_rfl) (by kernel_rfl)) (by kernel_rfl) (by kernel_rfl)
theorem of_laid {W : World} (h : laidMetH Tryd.prog laidL W) : TabAt W := by
  rw [MakeChecks.laidMetH_plain _ _ _ (by kernel_rfl)] at h
  have ht : Lib.TabIs Tryd.prog W "jetsam/coded.limits" .i64 limL := Lib.tabIs_of_head gLim tLim Tryd.underlying37 Tryd.underlying3 (by kernel_rfl) (by kernel_rfl) (rest := []) h
  intro i hi
  exact ht.cell gLim i hi
end Go.Proofs.YtjiopnjmklampaaDoor
