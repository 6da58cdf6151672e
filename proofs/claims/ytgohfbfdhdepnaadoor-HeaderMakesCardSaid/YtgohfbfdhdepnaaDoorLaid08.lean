/-
  What the rows' condition on the tables gives the walks; the door's own heap meets it.
-/
import Derived.Test.YtgohfbfdhdepnaaDoorHd08
import Derived.ProofKit
import Derived.LaidMore
import Derived.OpenShut
import Derived.Stop.Joined
import Derived.Lib.LaidTab
import Derived.Stop.LaidErr
namespace Go.Proofs.YtgohfbfdhdepnaaDoor
open Go.ChangeShapes Go.WideShapes Go.ChangeAt Go.RowKit

def laidL : List (String × DataW Unit) := [("jetsam/coded.limits", Rows.laid_jetsam_coded_limits), ("jetsam/header.blocks", Rows.laid_jetsam_header_blocks), ("jetsam/header.rates", Rows.laid_jetsam_header_rates), ("jetsam/header.depths", Rows.laid_jetsam_header_depths)]
theorem gLim : Tryd.prog.globalNamed "jetsam/coded.limits" = some 3 := by kernel_rfl
theorem tLim : (Tryd.prog.globals[3]?).map (·.type) = some 64 := by kernel_rfl
theorem gBlk : Tryd.prog.globalNamed "jetsam/header.blocks" = some 0 := by kernel_rfl
theorem tBlk : (Tryd.prog.globals[0]?).map (·.type) = some 57 := by kernel_rfl
theorem gRat : Tryd.prog.globalNamed "jetsam/header.rates" = some 1 := by kernel_rfl
theorem tRat : (Tryd.prog.globals[1]?).map (·.type) = some 57 := by kernel_rfl
theorem gDep : Tryd.prog.globalNamed "jetsam/header.depths" = some 2 := by kernel_rfl
theorem tDep : (Tryd.prog.globals[2]?).map (·.type) = some 64 := by kernel_rfl
/-- The door's own heap meets the condition. -/
theorem door_met (os : Os) (args : Array Value) : laidMetH Tryd.prog laidL ((World.doorLaid Tryd.prog 29 os).forCall (fun _ _ => 0) ⟨#[], args, []⟩).memory :=
  laidMetH_of_parts3 (fuel := 8) (laidMet_of_run' 8 (by kernel_rfl) (by kernel_rfl)) (by kernel_rfl) (by kernel_rfl)
theorem of_laid {W : World} (h : laidMetH Tryd.prog laidL W) : HTabs W := by
  rw [MakeChecks.laidMetH_plain _ _ _ (by kernel_rfl)] at h
  have h0 : Lib.TabIs Tryd.prog W "jetsam/coded.limits" .i64 C3.limL := Lib.tabIs_of_head gLim tLim Tryd.underlying64 Tryd.underlying3 (by kernel_rfl) (by kernel_rfl) (rest := _) h
  obtain ⟨ps, h1⟩ := laidMet.tail h
  have hb : Lib.TabIs Tryd.prog W "jetsam/header.blocks" .i64 blkL := Lib.tabIs_of_head gBlk tBlk Tryd.underlying57 Tryd.underlying3 (by kernel_rfl) (by kernel_rfl) (rest := _) ⟨ps, h1⟩
  obtain ⟨ps2, h2⟩ := laidMet.tail (show laidMet _ _ _ from ⟨ps, h1⟩)
  have hr : Lib.TabIs Tryd.prog W "jetsam/header.rates" .i64 ratL := Lib.tabIs_of_head gRat tRat Tryd.underlying57 Tryd.underlying3 (by kernel_rfl) (by kernel_rfl) (rest := _) ⟨ps2, h2⟩
  obtain ⟨ps3, h3⟩ := laidMet.tail (show laidMet _ _ _ from ⟨ps2, h2⟩)
  have hd : Lib.TabIs Tryd.prog W "jetsam/header.depths" .i64 depL := Lib.tabIs_of_head gDep tDep Tryd.underlying64 Tryd.underlying3 (by kernel_rfl) (by kernel_rfl) (rest := _) ⟨ps3, h3⟩
  exact ⟨fun i hi => hb.cell gBlk i hi, fun i hi => hr.cell gRat i hi, fun i hi => hd.cell gDep i hi, fun i hi => h0.cell gLim i hi⟩
end Go.Proofs.YtgohfbfdhdepnaaDoor
