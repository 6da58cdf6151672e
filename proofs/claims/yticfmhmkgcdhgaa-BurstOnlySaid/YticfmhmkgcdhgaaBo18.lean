/-
  jetsamlaw18.awake: the chapter's example.
-/
import Derived.Test.YticfmhmkgcdhgaaBo17
set_option linter.unusedSimpArgs false
set_option linter.unusedVariables false
namespace Go.Proofs.Yticfmhmkgcdhgaa
open Go.RowKit
open Crc (bits8 bitsOf bits8_le bitsOf_le)

theorem rd3 {w : World} {g : Nat} {a b c : Value} (h0 : w.cell? ⟨g, 0, none⟩ = some a) (h1 : w.cell? ⟨g, 1, none⟩ = some b) (h2 : w.cell? ⟨g, 2, none⟩ = some c) : Rd w (some ⟨g, 0, none⟩) [a, b, c] := by
  intro j u hu
  refine ⟨g, 0, rfl, ?_⟩
  rw [Nat.zero_add]
  match j with
  | 0 => rw [h0]; exact hu
  | 1 => rw [h1]; exact hu
  | 2 => rw [h2]; exact hu
  | j + 3 => simp at hu
/-- A row of the call's own, its cells. -/
theorem own_open {w : World} {base s n : Nat} {e : TypeId} {v : Value} {xs : List Value} (h : w.ownsRow base e s v n xs) (hn : 0 < n) :
    ∃ g cap, v = .slice (some ⟨g, 0, none⟩) n cap ∧ base ≤ g ∧ n ≤ cap ∧ (∀ j u, xs[j]? = some u → w.cell? ⟨g, j, none⟩ = some u) ∧ (∀ i, w.frozen? ⟨g, i, none⟩ = false) := by
  rcases h.2 with ⟨_, h0⟩ | ⟨g, cap, cur, rfl, hb, hg, hc, _, _, ht⟩
  · omega
  · refine ⟨g, cap, rfl, hb, hc, fun j u hu => ?_, fun i => free_blk hg i⟩
    rw [cell_of_row _ g j _ _ _ hg, ← ht] at *
    rw [← Array.getElem?_toList]
    rw [List.getElem?_take] at hu
    split at hu
    · exact hu
    · cases hu
deriving instance DecidableEq for B3
theorem awake_seal : sealL [1] = [1, 128, 5] := by decide +kernel
theorem awake_list : (allH (8 * [(1 : UInt8), 128, 4].length) (crc16 0 [1, 128, 4]) 1).map (·.1) = [⟨23, 1, 1⟩] := by decide +kernel
theorem cellsX_eq {N : Nat} (l : List (BX N)) : cellsX l = (l.map (·.1)).flatMap cellX := by simp [cellsX, List.flatMap_map]

set_option maxRecDepth 100000 in
set_option maxHeartbeats 2000000 in
theorem awake_any (w : World) : Calls Try.prog 10 #[] w fun e w' => e = .returned (.bool true) ∧ Below w.heap.size w w' := by
  have hrd0 : Rd (w.alloc (.cells #[.int .u8 1] 5)) (some ⟨w.heap.size, 0, none⟩) (bv [1]) := Rd.new w #[.int .u8 1] 5
  have HN := Lib.hid (sealed_any [1] (some ⟨w.heap.size, 0, none⟩) 1 _ hrd0 (by decide) (fun h => by cases h))
  clear hrd0
  go_enter Try.func10, Try.ntmps10
  go_wp2_with fail
  refine HN.out.mono ?_
  rintro e w1 ⟨v, rfl, hown, hb1⟩
  obtain ⟨g, cap, rfl, hg, hcap, hcells, hfr⟩ := own_open hown (by simp)
  rw [awake_seal, show bv [1, 128, 5] = [Value.int .u8 1, .int .u8 128, .int .u8 5] from rfl] at hcells
  have hc0 := hcells 0 _ rfl
  have hc1 := hcells 1 _ rfl
  have hc2 := hcells 2 _ rfl
  have hf2 := hfr 2
  have hb2 : Below w.heap.size w w1 := bnext (bal (Below.refl _ _) _) hb1
  obtain ⟨W2, hW2⟩ : ∃ W2, w1.setCell ⟨g, 2, none⟩ (.int .u8 (bits .xor .u8 5 1)) = W2 := ⟨_, rfl⟩
  have hb3 : Below w.heap.size w W2 := by rw [← hW2]; exact hb2.setCell (p := ⟨g, 2, none⟩) (by simp at hg; show w.heap.size ≤ g; omega) _
  have hrd : Rd W2 (some ⟨g, 0, none⟩) (bv [1, 128, 4]) := by
    rw [← hW2]
    refine rd3 ((World.cell?_setCell_other _ _ _ _ (by simp)).trans hc0) ((World.cell?_setCell_other _ _ _ _ (by simp)).trans hc1) (World.cell?_setCell_same' _ _ _ (by rw [hc2]; rfl))
  have HL := Lib.hid (listed_any [1, 128, 4] (some ⟨g, 0, none⟩) cap 1 W2 hrd (by decide) (fun h => by cases h))
  have HL2 : Hid ((allH (8 * [(1 : UInt8), 128, 4].length) (crc16 0 [1, 128, 4]) 1).length = 1 ∧ cellsX (allH (8 * [(1 : UInt8), 128, 4].length) (crc16 0 [1, 128, 4]) 1) = [.int .i64 23, .int .i64 1, .int .i64 1]) := by
    constructor
    · rw [← List.length_map (f := (·.1)), awake_list]; rfl
    · rw [cellsX_eq, awake_list]; rfl
  have HW2 := Lib.hid hW2
  have Hb3 := Lib.hid hb3
  clear hown hcells HN hb1 hfr hrd hW2 hb3
  simp only [List.length_cons, List.length_nil, Nat.zero_add, Nat.reduceAdd] at *
  go_wp2_with fail
  rw [HW2.out]
  refine HL.out.mono ?_
  rintro e w3 ⟨v, rfl, hown, hb4⟩
  have h5 := bnext Hb3.out hb4
  clear HL hb4 hb2 HW2 Hb3
  obtain ⟨hl1, hl2⟩ := HL2.out
  rw [hl1, hl2] at hown
  obtain ⟨g2, cap2, rfl, hg2, hcap2, hcells, hfr⟩ := own_open hown (by simp)
  have hd0 := hcells 0 _ rfl
  have hd1 := hcells 1 _ rfl
  have hd2 := hcells 2 _ rfl
  clear HL2 hl1 hl2 hown hcells hfr
  go_wp2_with fail
  go_ret
  exact ⟨rfl, h5⟩
end Go.Proofs.Yticfmhmkgcdhgaa
