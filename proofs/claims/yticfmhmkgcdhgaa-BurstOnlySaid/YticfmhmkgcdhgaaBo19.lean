/-
  burst.turn: one burst's bits, turned in place.
-/
import Derived.Test.YticfmhmkgcdhgaaBo18
import Derived.RegionTactic
import Derived.BigRegion
set_option linter.unusedSimpArgs false
set_option linter.unusedVariables false
namespace Go.Proofs.Yticfmhmkgcdhgaa
open Go.RowKit
open Crc (burstB dmg flip)

theorem blk_flipR {wr : World} {g k : Nat} {L : List UInt8} {rest : List Value} {t : TypeId} {x : UInt8} (h : wr.heap[g]? = some (.cells (bv L ++ rest).toArray t (0, 0))) (hidx : k / 8 < L.length) (hx : x = L[k / 8]) :
    Hid ((wr.setCell ⟨g, k / 8, none⟩ (.int .u8 (bits .xor .u8 (x.toNat : Int) (128 / 2 ^ (k % 8))))).drew.heap[g]? = some (.cells (bv (Crc.flip L k) ++ rest).toArray t (0, 0))) := by
  show (wr.setCell _ _).heap[g]? = _
  have e : (128 : Int) / 2 ^ (k % 8) = ((128 / 2 ^ (k % 8) : Nat) : Int) := by simp
  have h128 : 128 / 2 ^ (k % 8) < 256 := Nat.lt_of_le_of_lt (Nat.div_le_self _ _) (by decide)
  rw [e, u8_xor_nat _ _ (by have := x.toNat_lt; omega) h128]
  have e2 : bv (Crc.flip L k) = (bv L).set (k / 8) (.int .u8 ((x.toNat ^^^ (128 / 2 ^ (k % 8)) : Nat) : Int)) := by
    unfold Crc.flip bv
    rw [List.map_set]
    congr 2
    rw [UInt8.toNat_xor, UInt8.toNat_ofNat', Nat.mod_eq_of_lt h128]
    simp [List.getD, hidx, hx]
  rw [e2, ← List.set_append_left _ _ (by rw [bv_length]; exact hidx)]
  simp [World.setCell, Array.getElem?_modify, h]
theorem pow_shift (p m j : Nat) : p * 2 ^ m / 2 ^ (m + j) = p / 2 ^ j := by
  rw [Nat.pow_add, ← Nat.div_div_eq_div_mul, Nat.mul_div_cancel _ (Nat.two_pow_pos _)]

set_option maxRecDepth 100000 in
set_option maxHeartbeats 1600000 in
theorem turn_any (l : List UInt8) (rest : List Value) (g cap a n p : Nat) (w : World) (hg : w.heap[g]? = some (.cells (bv l ++ rest).toArray 5 (0, 0))) (hlen : l.length ≤ 100000) (hn : n ≤ 16) (hp : p < 65536) (hat : a + n ≤ 8 * l.length) :
    Calls Try.prog 32 #[.slice (some ⟨g, 0, none⟩) l.length cap, .agg #[.int .i64 a, .int .i64 n, .int .i64 p]] w fun e w' =>
      e = .returned (.tuple #[]) ∧ w'.heap[g]? = some (.cells (bv (burstB l a n p) ++ rest).toArray 5 (0, 0)) ∧ Below g w w' := by
  have Hg := Lib.hid hg
  have hgl : g < w.heap.size := (Array.getElem?_eq_some_iff.1 hg).1
  have Hgl := Lib.hid hgl
  have Hne : Hid (g ≠ w.heap.size) := by show _ ≠ _; omega
  clear hg hgl
  have Hd : Hid (burstB l a n p = dmg l a (p * 2 ^ (16 - n)) n) := rfl
  generalize burstB l a n p = R at *
  go_enter Try.func32, Try.ntmps32
  go_wp2_with fail
  go_loopw [4, 5, 8] (fun x4 x5 i wr => ∃ j : Nat, j ≤ n ∧ i = .int .i64 j ∧ wr.cell? ⟨w.heap.size, 0, none⟩ = some (.int .i64 a) ∧ wr.cell? ⟨w.heap.size, 1, none⟩ = some (.int .i64 n) ∧ wr.cell? ⟨w.heap.size, 2, none⟩ = some (.int .i64 p) ∧ Hid (wr.heap[g]? = some (.cells (bv (dmg l a (p * 2 ^ (16 - n)) j) ++ rest).toArray 5 (0, 0))) ∧ Hid (Below g w wr)) (fun _ _ i _ => n - (intOf i).toNat)
  case atStart => exact ⟨0, by omega, rfl, by go_simp, by go_simp, by go_simp, hrow_alloc Hg.out _, (Below.refl _ _).alloc (Nat.le_of_lt Hgl.out) _⟩
  case round =>
    obtain ⟨j, hj, rfl, hc0, hc1, hc2, Hblk, hb⟩ := hrel
    by_cases hjj : j < n
    · obtain ⟨m, hm⟩ : ∃ m, n = j + 1 + m := ⟨n - j - 1, by omega⟩
      have hm1 : (n : Int) - 1 - (j : Int) = (m : Int) := by omega
      have hm2 : (0 : Int) ≤ m := by omega
      have hbits : p * 2 ^ (16 - n) / 2 ^ (15 - j) = p / 2 ^ m := by rw [show 15 - j = (16 - n) + m from by omega, pow_shift]
      have hdl := Crc.dmg_length l a (p * 2 ^ (16 - n)) j
      by_cases hbit : p / 2 ^ m % 2 = 1
      · have E := and_one_int p m (by omega)
        rw [hbit] at E
        have hcd : p * 2 ^ (16 - n) / 2 ^ (15 - j) % 2 = 1 ∧ a + j < 8 * l.length := ⟨by rw [hbits]; exact hbit, by omega⟩
        have Hdm : Hid (dmg l a (p * 2 ^ (16 - n)) (j + 1) = flip (dmg l a (p * 2 ^ (16 - n)) j) (a + j)) := if_pos hcd
        generalize dmg l a (p * 2 ^ (16 - n)) j = D at *
        have hi0 : (0 : Int) ≤ ((a : Int) + j) / 8 := by omega
        have hi1 : ((a : Int) + j) / 8 < l.length := by omega
        have hidx : (a + j) / 8 < D.length := by omega
        obtain ⟨x, hx⟩ : ∃ x : UInt8, x = D[(a + j) / 8] := ⟨_, rfl⟩
        have hcell : wr.cell? ⟨g, (a + j) / 8, none⟩ = some (.int .u8 (x.toNat : Int)) := by
          rw [cell_of_row wr _ _ _ _ _ Hblk.out, hx, List.getElem?_toArray, List.getElem?_append_left (by rw [bv_length]; exact hidx)]
          simpa using bv_get _ _ hidx
        have hfr : wr.frozen? ⟨g, (a + j) / 8, none⟩ = false := free_blk Hblk.out _
        have Hx : Hid (∃ h : (a + j) / 8 < D.length, x = D[(a + j) / 8]) := ⟨hidx, hx⟩
        have hat8 : (a : Int) + j ≤ 800000 := by omega
        clear hx hdl hidx hcd hbits
        go_wp2_with fail
        have e1 : ((a : Int) + j).tdiv 8 = ((a : Int) + j) / 8 := Int.tdiv_eq_ediv_of_nonneg (by omega)
        have e2 : ((a : Int) + j).tmod 8 = ((a : Int) + j) % 8 := Int.tmod_eq_emod_of_nonneg (by omega)
        have e3 : IntKind.i64.wrap (((a : Int) + j) / 8) = ((a : Int) + j) / 8 := IntWalk.i64_in _ (by omega)
        have e4 : IntKind.i64.wrap (((a : Int) + j) % 8) = ((a : Int) + j) % 8 := IntWalk.i64_in _ (by omega)
        have e5 : (((a : Int) + j) / 8).toNat = (a + j) / 8 := by omega
        have e6 : (0 : Int) ≤ ((a : Int) + j) % 8 := by omega
        go_region
        go_wp2_with fail
        clear e1 e2 e3 e4 e5 e6
        refine ⟨⟨j + 1, by omega, by go_num, ?_, ?_, ?_, ?_, ?_⟩, by simp [intOf] <;> omega⟩
        · exact (World.cell?_setCell_far _ ⟨g, _, none⟩ ⟨w.heap.size, 0, none⟩ _ Hne.out).trans hc0
        · exact (World.cell?_setCell_far _ ⟨g, _, none⟩ ⟨w.heap.size, 1, none⟩ _ Hne.out).trans hc1
        · exact (World.cell?_setCell_far _ ⟨g, _, none⟩ ⟨w.heap.size, 2, none⟩ _ Hne.out).trans hc2
        · rw [Hdm.out]
          obtain ⟨hidx, hx⟩ := Hx.out
          exact blk_flipR Hblk.out hidx hx
        · exact Below.drew (Below.setCell hb.out (Nat.le_refl _) _)
      · have hb0 : p / 2 ^ m % 2 = 0 := by omega
        have E := and_one_int p m (by omega)
        rw [hb0] at E
        have Hdm : Hid (dmg l a (p * 2 ^ (16 - n)) (j + 1) = dmg l a (p * 2 ^ (16 - n)) j) := if_neg (fun h => by rw [hbits] at h; omega)
        generalize dmg l a (p * 2 ^ (16 - n)) j = D at *
        clear hbit hb0 hbits hdl
        go_wp2_with fail
        go_roundw
        case rel => exact ⟨j + 1, by omega, by go_num, hc0, hc1, hc2, by rw [Hdm.out]; exact Hblk, hb⟩
        case measure => simp [intOf] <;> omega
    · obtain rfl : j = n := by omega
      go_wp2_with fail
      go_end0
      refine ⟨rfl, ?_, hb.out⟩
      rw [Hd.out]; exact Hblk.out
end Go.Proofs.Yticfmhmkgcdhgaa
