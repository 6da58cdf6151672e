/-
  What the rows' condition on the tables gives the walks; the door's own heap meets it.
-/
import Derived.Test.YtibhhebfenkeaaaDoorTake04
import Derived.ProofKit
import Derived.LaidMore
import Derived.OpenShut
import Derived.Stop.Joined
import Derived.Lib.LaidTab
import Derived.Stop.LaidErr
namespace Go.Proofs.YtibhhebfenkeaaaDoor
open Go.ChangeShapes Go.WideShapes Go.ChangeAt Go.RowKit

def laidL : List (String × DataW Unit) := [("jetsam/digest.sines", Rows.laid_jetsam_digest_sines), ("jetsam/digest.turns", Rows.laid_jetsam_digest_turns)]
theorem gSin : Tryd.prog.globalNamed "jetsam/digest.sines" = some 0 := by kernel_rfl
theorem tSin : (Tryd.prog.globals[0]?).map (·.type) = some 61 := by kernel_rfl
theorem gTur : Tryd.prog.globalNamed "jetsam/digest.turns" = some 1 := by kernel_rfl
theorem tTur : (Tryd.prog.globals[1]?).map (·.type) = some 65 := by kernel_rfl
theorem turns_cells {w : World} {fuel : Nat} {cs : List Value} {p : List MemPlace} (h : DataW.trod (fun _ => ()) Tryd.prog w 0 (fun _ => true) false fuel 65 cs = some (Rows.laid_jetsam_digest_turns, p)) :
    ∀ i, i < 16 → cs[i]? = some (.int .i64 (turnsL.getD i 0 : Nat)) := by
  cases fuel with
  | zero => simp [DataW.trod] at h
  | succ fuel =>
    have hce : Tryd.prog.cellsOf 64 = 4 := by kernel_rfl
    have hct : Tryd.prog.cellsOf 65 = 16 := by kernel_rfl
    simp only [DataW.trod, Tryd.underlying65, hce, hct] at h
    split at h
    · obtain ⟨xs, hm, hx⟩ := Option.map_eq_some_iff.1 h
      have hxs := congrArg Prod.fst hx
      unfold Rows.laid_jetsam_digest_turns at hxs
      simp only [DataW.agg.injEq] at hxs
      have row : ∀ (k : Nat) (zs : List Int), k < 4 → (xs.map (·.1))[k]? = some (Lib.tabData .i64 zs) → (cs.drop (k * 4)).take 4 = zs.map fun z => Value.int .i64 z := by
        intro k zs hk hz
        obtain ⟨b, hb, hf⟩ := Lib.mapM_at hm k k (by simp [hk])
        rw [List.getElem?_map, hb] at hz
        simp only [Option.map_some, Option.some.injEq] at hz
        obtain ⟨b1, b2⟩ := b
        simp only at hz
        subst hz
        exact Lib.cells_of_tab Tryd.underlying64 Tryd.underlying3 (by kernel_rfl) (by kernel_rfl) hf
      rw [hxs] at row
      have r0 := row 0 [7, 12, 17, 22] (by omega) rfl
      have r1 := row 1 [5, 9, 14, 20] (by omega) rfl
      have r2 := row 2 [4, 11, 16, 23] (by omega) rfl
      have r3 := row 3 [6, 10, 15, 21] (by omega) rfl
      have hget : ∀ (k j : Nat) (zs : List Int), j < 4 → (cs.drop (k * 4)).take 4 = zs.map (fun z => Value.int .i64 z) → cs[k * 4 + j]? = (zs.map fun z => Value.int .i64 z)[j]? := by
        intro k j zs hj he
        rw [← he, List.getElem?_take, if_pos hj, List.getElem?_drop]
      intro i hi
      have hij : i = i / 4 * 4 + i % 4 := by omega
      have : i / 4 = 0 ∨ i / 4 = 1 ∨ i / 4 = 2 ∨ i / 4 = 3 := by omega
      have hj : i % 4 = 0 ∨ i % 4 = 1 ∨ i % 4 = 2 ∨ i % 4 = 3 := by omega
      rcases this with e | e | e | e <;> rcases hj with e2 | e2 | e2 | e2 <;> rw [e, e2] at hij <;> subst hij
      · exact hget 0 0 _ (by omega) r0
      · exact hget 0 1 _ (by omega) r0
      · exact hget 0 2 _ (by omega) r0
      · exact hget 0 3 _ (by omega) r0
      · exact hget 1 0 _ (by omega) r1
      · exact hget 1 1 _ (by omega) r1
      · exact hget 1 2 _ (by omega) r1
      · exact hget 1 3 _ (by omega) r1
      · exact hget 2 0 _ (by omega) r2
      · exact hget 2 1 _ (by omega) r2
      · exact hget 2 2 _ (by omega) r2
      · exact hget 2 3 _ (by omega) r2
      · exact hget 3 0 _ (by omega) r3
      · exact hget 3 1 _ (by omega) r3
      · exact hget 3 2 _ (by omega) r3
      · exact hget 3 3 _ (by omega) r3
    · cases h
/-- The door's own heap meets the condition. -/
theorem door_met (os : Os) (args : Array Value) : laidMetH Tryd.prog laidL ((World.doorLaid Tryd.prog 23 os).forCall (fun _ _ => 0) ⟨#[], args, []⟩).memory :=
  laidMetH_of_parts3 (fuel := 8) (laidMet_of_run' 8 (by kernel_rfl) (by kernel_rfl)) (by kernel_rfl) (by kernel_rfl)
theorem of_laid {W : World} (h : laidMetH Tryd.prog laidL W) : Tabs W := by
  rw [MakeChecks.laidMetH_plain _ _ _ (by kernel_rfl)] at h
  have ht : Lib.TabIs Tryd.prog W "jetsam/digest.sines" .u32 (sinesL.map (fun x : Nat => (x : Int))) := Lib.tabIs_of_head gSin tSin Tryd.underlying61 Tryd.underlying47 (by kernel_rfl) (by kernel_rfl) (rest := [("jetsam/digest.turns", Rows.laid_jetsam_digest_turns)]) h
  refine ⟨fun i hi => ?_, ?_⟩
  · have h2 := ht.cell gSin i (by simpa [sinesL_length] using hi)
    rw [h2]
    have e : (sinesL.map (fun x : Nat => (x : Int))).getD i 0 = ((sn i : Nat) : Int) := by
      unfold sn
      simp only [List.getD_eq_getElem?_getD, List.getElem?_map, List.getElem?_eq_getElem (show i < sinesL.length by rw [sinesL_length]; exact hi)]
      rfl
    rw [e]
  · obtain ⟨ps, ⟨g', t', cs, fuel, p, q, hg', ht', hvar, hd, _, _⟩, _⟩ := laidMet.tail h
    obtain rfl := Option.some.inj (gTur.symm.trans hg')
    obtain rfl := Option.some.inj (tTur.symm.trans ht')
    have hc := turns_cells hd
    intro i hi
    have h3 := World.var?_cell gTur hvar i
    rw [h3, ← Array.getElem?_toList]
    exact hc i hi
end Go.Proofs.YtibhhebfenkeaaaDoor
