/-
  jetsamlaw02.SumsSee: its walk.
-/
import Derived.Test.YtjfjkmbokiinbaaAwake02
import Derived.Test.YtjfjkmbokiinbaaSums3
import Derived.Test.YtjfjkmbokiinbaaL2
import Derived.Test.YtjfjkmbokiinbaaSee
import Derived.Laws.CopyOwn
import Derived.RegionTactic
import Derived.BigRegion
namespace Go.Proofs.Ytjfjkmbokiinbaa
open Go.RowKit

theorem info_u8 : (Try.prog.info? 5).map (fun i => (i.zero, i.size, i.bytes)) = some (some (.int .u8 0), 1, 1) := by kernel_rfl

theorem blk_flip {wr : World} {g k : Nat} {L : List UInt8} {t : TypeId} {x : UInt8} (h : wr.heap[g]? = some (.cells (bv L).toArray t (0, 0))) (hidx : k / 8 < L.length) (hx : x = L[k / 8]) :
    Hid ((wr.setCell ⟨g, k / 8, none⟩ (.int .u8 (bits .xor .u8 (x.toNat : Int) (128 / 2 ^ (k % 8))))).drew.heap[g]? = some (.cells (bv (Crc.flip L k)).toArray t (0, 0))) := by
  show (wr.setCell _ _).heap[g]? = _
  have e : (128 : Int) / 2 ^ (k % 8) = ((128 / 2 ^ (k % 8) : Nat) : Int) := by simp
  have h128 : 128 / 2 ^ (k % 8) < 256 := Nat.lt_of_le_of_lt (Nat.div_le_self _ _) (by decide)
  rw [e, u8_xor_nat _ _ (by have := x.toNat_lt; omega) h128]
  have e2 : bv (Crc.flip L k) = (bv L).set (k / 8) (.int .u8 ((x.toNat ^^^ (128 / 2 ^ (k % 8)) : Nat) : Int)) := by
    unfold Crc.flip bv
    rw [List.map_set]
    congr 2
    rw [UInt8.toNat_xor, UInt8.toNat_ofNat', Nat.mod_eq_of_lt h128]
    simp [List.getD, hidx, hx]
  rw [e2]
  simp [World.setCell, Array.getElem?_modify, h]
theorem rd_blk {w : World} {g : Nat} {xs : List Value} {t : TypeId} (h : w.heap[g]? = some (.cells xs.toArray t (0, 0))) : Rd w (some ⟨g, 0, none⟩) xs := by
  intro j u hu
  refine ⟨g, 0, rfl, ?_⟩
  rw [cell_of_row _ g (0 + j) _ t (0, 0) h]
  simpa using hu

set_option maxRecDepth 100000 in
set_option maxHeartbeats 1600000 in
theorem see_walk (l : List UInt8) (A : Option Addr) (c : Nat) (at_ d : Int) (w : World) (hl : Rd w A (bv l)) (hc : l.length ≤ c) :
    Calls Try.prog 4 #[.slice A l.length c, .int .i64 at_, .int .i64 d] w fun e w' => e = .returned (.bool true) ∧ Below w.heap.size w w' := by
  have HA : Hid (BS w (.slice A l.length c) l) := BS.of hl hc
  have HR := Lib.hid hl
  clear hl
  by_cases h1 : (l.length : Int) < 1
  · go_enter Try.func4, Try.ntmps4
    go_wp2_with fail
    (refine (awake_any _).mono ?_; rintro e w9 ⟨rfl, hb9⟩; go_wp2_with fail; go_ret; exact ⟨rfl, by repeat (first | exact Below.refl _ _ | assumption | refine below_drewN ?_ _ | refine Below.drew ?_ | refine Below.alloc ?_ (Nat.le_refl _) _ | refine bal ?_ _ | refine bnext ?_ (by assumption))⟩)
  by_cases h2 : (400 : Int) < l.length
  · go_enter Try.func4, Try.ntmps4
    go_wp2_with fail
    (refine (awake_any _).mono ?_; rintro e w9 ⟨rfl, hb9⟩; go_wp2_with fail; go_ret; exact ⟨rfl, by repeat (first | exact Below.refl _ _ | assumption | refine below_drewN ?_ _ | refine Below.drew ?_ | refine Below.alloc ?_ (Nat.le_refl _) _ | refine bal ?_ _ | refine bnext ?_ (by assumption))⟩)
  by_cases h3 : at_ < 0
  · go_enter Try.func4, Try.ntmps4
    go_wp2_with fail
    (refine (awake_any _).mono ?_; rintro e w9 ⟨rfl, hb9⟩; go_wp2_with fail; go_ret; exact ⟨rfl, by repeat (first | exact Below.refl _ _ | assumption | refine below_drewN ?_ _ | refine Below.drew ?_ | refine Below.alloc ?_ (Nat.le_refl _) _ | refine bal ?_ _ | refine bnext ?_ (by assumption))⟩)
  by_cases h4 : 8 * (l.length : Int) ≤ at_
  · go_enter Try.func4, Try.ntmps4
    go_wp2_with fail
    (refine (awake_any _).mono ?_; rintro e w9 ⟨rfl, hb9⟩; go_wp2_with fail; go_ret; exact ⟨rfl, by repeat (first | exact Below.refl _ _ | assumption | refine below_drewN ?_ _ | refine Below.drew ?_ | refine Below.alloc ?_ (Nat.le_refl _) _ | refine bal ?_ _ | refine bnext ?_ (by assumption))⟩)
  by_cases h5 : d < 1
  · go_enter Try.func4, Try.ntmps4
    go_wp2_with fail
    (refine (awake_any _).mono ?_; rintro e w9 ⟨rfl, hb9⟩; go_wp2_with fail; go_ret; exact ⟨rfl, by repeat (first | exact Below.refl _ _ | assumption | refine below_drewN ?_ _ | refine Below.drew ?_ | refine Below.alloc ?_ (Nat.le_refl _) _ | refine bal ?_ _ | refine bnext ?_ (by assumption))⟩)
  by_cases h6 : 65535 < d
  · go_enter Try.func4, Try.ntmps4
    go_wp2_with fail
    (refine (awake_any _).mono ?_; rintro e w9 ⟨rfl, hb9⟩; go_wp2_with fail; go_ret; exact ⟨rfl, by repeat (first | exact Below.refl _ _ | assumption | refine below_drewN ?_ _ | refine Below.drew ?_ | refine Below.alloc ?_ (Nat.le_refl _) _ | refine bal ?_ _ | refine bnext ?_ (by assumption))⟩)
  obtain ⟨k, rfl⟩ := Int.eq_ofNat_of_zero_le (show 0 ≤ at_ by omega)
  obtain ⟨d, rfl⟩ := Int.eq_ofNat_of_zero_le (show 0 ≤ d by omega)
  have Hd : Hid (d < 65536) := Lib.hid (by omega)
  have hl4 : l.length < 4611686018427387904 := by omega
  have HL4 := Lib.hid hl4; clear hl4
  obtain ⟨iu, hiu, hz0, hz1, hz2⟩ := info_parts info_u8
  have Hiu := Lib.hid hiu; clear hiu
  go_enter Try.func4, Try.ntmps4
  go_wp2_with (at_make; refine wpList_make_full _ rfl _ _ 22 rfl w.heap.size 5 iu (.int .u8 0) 1 Try.underlying22 Hiu.out hz0 hz1 _ _ _ _ l.length rfl rfl rfl rfl (by rw [hz2]; omega) (by unfold maxLen; omega) (Nat.le_refl _) ?_)
  intro w1 hown hgrow
  obtain ⟨cur, hcur, hcl⟩ : ∃ cur : List Value, w1.heap[w.heap.size]? = some (.cells cur.toArray 5 (0, 0)) ∧ cur.length = l.length := by
    rcases hown.2 with ⟨h, _⟩ | ⟨g, cap, cs, h, _, hg, _, _, hs, _⟩
    · simp at h
    · simp at h
      obtain ⟨rfl, rfl⟩ := h
      exact ⟨cs.toList, by simpa using hg, by simpa using hs⟩
  have hb1 : Below w.heap.size w w1 := (Below.refl _ _).grown hgrow (Nat.le_refl _) (by simp)
  have Hcur := Lib.hid hcur; clear hcur
  have Hcl := Lib.hid hcl; clear hcl hown hgrow
  go_wp2_with (with_reducible refine wpList_copy_splice rfl _ _ 22 22 rfl 5 Try.underlying22 (by kernel_rfl) (some ⟨w.heap.size, 0, none⟩) A l.length l.length l.length c rfl rfl w.heap.size 0 cur 5 Hcur.out (bv l) ?_ ?_ ?_ ?_ w.heap.size w hb1 (Nat.le_refl _) ?_)
  · rw [bv_length]; simp
  · intro hpos
    first | exact ⟨rfl, (HR.out.below hb1).src hpos⟩ | exact (HR.out.below hb1).src hpos
  · rw [bv_length, Hcl.out]; omega
  · intro v hv
    simp only [bv, List.mem_map] at hv
    obtain ⟨_, _, rfl⟩ := hv
    rfl
  intro w2 Hblk hb2
  have Hblk2 : Hid (w2.heap[w.heap.size]? = some (.cells (bv (Crc.dmg l k d 0)).toArray 5 (0, 0))) := by
    have h := Hblk.out
    have e : splice cur 0 (bv l) = bv l := by
      unfold splice
      simp only [List.take_zero, List.nil_append, Nat.zero_add]
      rw [List.drop_of_length_le (by rw [bv_length, Hcl.out]; exact Nat.le_refl _), List.append_nil]
    rw [e] at h
    exact h
  clear Hblk
  go_wp2_with fail
  go_loopw [8, 9, 10] (fun u v i wr => ∃ j : Nat, j ≤ 16 ∧ i = .int .i64 j ∧ u = .bool (Crc.wide l k d j) ∧ v = .bool (Crc.turned l k d j) ∧ Hid (wr.heap[w.heap.size]? = some (.cells (bv (Crc.dmg l k d j)).toArray 5 (0, 0))) ∧ Below w.heap.size w wr) (fun _ _ i _ => 16 - (intOf i).toNat)
  case atStart => exact ⟨0, by omega, rfl, rfl, rfl, Hblk2, hb2⟩
  case round =>
    obtain ⟨j, hj, rfl, rfl, rfl, Hblk, hb⟩ := hrel
    by_cases hjj : j < 16
    · by_cases hbit : d / 2 ^ (15 - j) % 2 = 1
      · have E := and_one_int d (15 - j) (by have := Hd.out; omega)
        rw [hbit] at E
        by_cases hin : (k : Int) + j < 8 * l.length
        · have hc1 : d / 2 ^ (15 - j) % 2 = 1 ∧ k + j < 8 * l.length := ⟨hbit, by omega⟩
          have Hdm : Hid (Crc.dmg l k d (j + 1) = Crc.flip (Crc.dmg l k d j) (k + j)) := if_pos hc1
          have Htu : Hid (Crc.turned l k d (j + 1) = true) := if_pos hc1
          have Hwi : Hid (Crc.wide l k d (j + 1) = (Crc.wide l k d j || decide (8 ≤ j))) := if_pos hc1
          have hi0 : (0 : Int) ≤ ((k : Int) + j) / 8 := by omega
          have hi1 : ((k : Int) + j) / 8 < l.length := by omega
          have hlen := Crc.dmg_length l k d j
          have hidx : (k + j) / 8 < (Crc.dmg l k d j).length := by omega
          obtain ⟨x, hx⟩ : ∃ x : UInt8, x = (Crc.dmg l k d j)[(k + j) / 8] := ⟨_, rfl⟩
          have hcell : wr.cell? ⟨w.heap.size, (k + j) / 8, none⟩ = some (.int .u8 (x.toNat : Int)) := by
            rw [cell_of_row wr _ _ _ _ _ Hblk.out, hx]
            simpa using bv_get _ _ hidx
          have hfr : wr.frozen? ⟨w.heap.size, (k + j) / 8, none⟩ = false := free_blk Hblk.out _
          have Hx : Hid (∃ h : (k + j) / 8 < (Crc.dmg l k d j).length, x = (Crc.dmg l k d j)[(k + j) / 8]) := ⟨hidx, hx⟩
          clear hx hlen hidx hc1
          generalize hwd : Crc.wide l k d j = wd at *
          clear hwd
          cases wd
          all_goals
            go_wp2_with fail
            have e1 : ((k : Int) + j).tdiv 8 = ((k : Int) + j) / 8 := Int.tdiv_eq_ediv_of_nonneg (by omega)
            have e2 : ((k : Int) + j).tmod 8 = ((k : Int) + j) % 8 := Int.tmod_eq_emod_of_nonneg (by omega)
            have e3 : IntKind.i64.wrap (((k : Int) + j) / 8) = ((k : Int) + j) / 8 := IntWalk.i64_in _ (by omega)
            have e4 : IntKind.i64.wrap (((k : Int) + j) % 8) = ((k : Int) + j) % 8 := IntWalk.i64_in _ (by omega)
            have e5 : (((k : Int) + j) / 8).toNat = (k + j) / 8 := by omega
            have e6 : (0 : Int) ≤ ((k : Int) + j) % 8 := by omega
            go_region
            go_wp2_with fail
          all_goals
            clear e1 e2 e3 e4 e5 e6
            refine ⟨⟨j + 1, by omega, by go_num, ?_, by rw [Htu.out], ?_, ?_⟩, by simp [intOf] <;> omega⟩
            · rw [Hwi.out]; simp <;> omega
            · rw [Hdm.out]
              obtain ⟨hidx, hx⟩ := Hx.out
              exact blk_flip Hblk.out hidx hx
            · exact Below.drew (Below.setCell hb (Nat.le_refl _) _)
        · have hc1 : ¬ (d / 2 ^ (15 - j) % 2 = 1 ∧ k + j < 8 * l.length) := fun h => by omega
          have Hdm : Hid (Crc.dmg l k d (j + 1) = Crc.dmg l k d j) := if_neg hc1
          have Htu : Hid (Crc.turned l k d (j + 1) = Crc.turned l k d j) := if_neg hc1
          have Hwi : Hid (Crc.wide l k d (j + 1) = Crc.wide l k d j) := if_neg hc1
          have Hbit := Lib.hid hbit; clear hbit hc1
          go_wp2_with fail
          go_roundw
          case rel => exact ⟨j + 1, by omega, by go_num, by rw [Hwi.out], by rw [Htu.out], by rw [Hdm.out]; exact Hblk, hb⟩
          case measure => simp [intOf] <;> omega
      · have hb0 : d / 2 ^ (15 - j) % 2 = 0 := by omega
        have E := and_one_int d (15 - j) (by have := Hd.out; omega)
        rw [hb0] at E
        have Hdm : Hid (Crc.dmg l k d (j + 1) = Crc.dmg l k d j) := if_neg (fun h => hbit h.1)
        have Htu : Hid (Crc.turned l k d (j + 1) = Crc.turned l k d j) := if_neg (fun h => hbit h.1)
        have Hwi : Hid (Crc.wide l k d (j + 1) = Crc.wide l k d j) := if_neg (fun h => hbit h.1)
        clear hbit hb0
        go_wp2_with fail
        go_roundw
        case rel => exact ⟨j + 1, by omega, by go_num, by rw [Hwi.out], by rw [Htu.out], by rw [Hdm.out]; exact Hblk, hb⟩
        case measure => simp [intOf] <;> omega
    · obtain rfl : j = 16 := by omega
      have hat : k ≤ 8 * l.length := by omega
      have hS16 := Crc.p16.sees (by decide) l k d 16 (by omega) (by omega) hat (fun k' h1 h2 => by omega)
      rw [← crc16_eq, ← crc16_eq] at hS16
      have hS8 : Crc.wide l k d 16 = false → (crc8 0 (Crc.dmg l k d 16) = crc8 0 l ↔ Crc.turned l k d 16 = false) := by
        intro hw
        have := Crc.p8.sees (by decide) l k d 8 (by omega) (by omega) hat (fun k' h1 h2 => Crc.wide_false l k d 16 hw k' h1 h2)
        rw [← crc8_eq, ← crc8_eq] at this
        exact this
      have HC : Hid (BS wr (.slice (some ⟨w.heap.size, 0, none⟩) l.length l.length) (Crc.dmg l k d 16)) := by
        have := BS.of (rd_blk Hblk.out) (Nat.le_refl (Crc.dmg l k d 16).length)
        rw [Crc.dmg_length] at this
        exact this
      have HLC : Hid ((Crc.dmg l k d 16).length < 4611686018427387904) := by
        show _ < _
        rw [Crc.dmg_length]; exact HL4.out
      obtain ⟨X, hX⟩ : ∃ X, crc16 0 (Crc.dmg l k d 16) = X := ⟨_, rfl⟩
      obtain ⟨Y, hY⟩ : ∃ X, crc16 0 l = X := ⟨_, rfl⟩
      obtain ⟨U, hU⟩ : ∃ X, crc8 0 (Crc.dmg l k d 16) = X := ⟨_, rfl⟩
      obtain ⟨V, hV⟩ : ∃ X, crc8 0 l = X := ⟨_, rfl⟩
      rw [hX, hY] at hS16
      rw [hU, hV] at hS8
      have HX := Lib.hid hX; clear hX
      have HY := Lib.hid hY; clear hY
      have HU := Lib.hid hU; clear hU
      have HV := Lib.hid hV; clear hV
      generalize Crc.turned l k d 16 = T at *
      generalize Crc.wide l k d 16 = Wd at *
      cases T
      · have e : X = Y := hS16.2 rfl
        clear hS16 hS8
        subst e
        go_wp2_with fail
        refine (Sum16_one HC.out (Below.refl _ _) (by simp) HLC.out).mono ?_
        rintro e w3 ⟨rfl, hb3⟩
        rw [HX.out]
        go_wp2_with fail
        refine (Sum16_one HA.out (bnext hb hb3) (by simp) HL4.out).mono ?_
        rintro e w4 ⟨rfl, hb4⟩
        rw [HY.out]
        go_wp2_with fail
        (refine (awake_any _).mono ?_; rintro e w9 ⟨rfl, hb9⟩; go_wp2_with fail; go_ret; exact ⟨rfl, by repeat (first | exact Below.refl _ _ | assumption | refine below_drewN ?_ _ | refine Below.drew ?_ | refine Below.alloc ?_ (Nat.le_refl _) _ | refine bal ?_ _ | refine bnext ?_ (by assumption))⟩)
      · have e : ((X : Int) != (Y : Int)) = true := by
          rw [bne_iff_ne]
          intro h
          have : X = Y := by omega
          exact absurd (hS16.1 this) (by decide)
        clear hS16
        cases Wd
        · have e2 : ((U : Int) != (V : Int)) = true := by
            rw [bne_iff_ne]
            intro h
            have : U = V := by omega
            exact absurd ((hS8 rfl).1 this) (by decide)
          clear hS8
          go_wp2_with fail
          refine (Sum16_one HC.out (Below.refl _ _) (by simp) HLC.out).mono ?_
          rintro e w3 ⟨rfl, hb3⟩
          rw [HX.out]
          go_wp2_with fail
          refine (Sum16_one HA.out (bnext hb hb3) (by simp) HL4.out).mono ?_
          rintro e w4 ⟨rfl, hb4⟩
          rw [HY.out]
          go_wp2_with fail
          refine (Sum8_one HC.out (bnext hb3 hb4) (by simp) HLC.out).mono ?_
          rintro e w5 ⟨rfl, hb5⟩
          rw [HU.out]
          go_wp2_with fail
          refine (Sum8_one HA.out (bnext (bnext (bnext hb hb3) hb4) hb5) (by simp) HL4.out).mono ?_
          rintro e w6 ⟨rfl, hb6⟩
          rw [HV.out]
          go_wp2_with fail
          (refine (awake_any _).mono ?_; rintro e w9 ⟨rfl, hb9⟩; go_wp2_with fail; go_ret; exact ⟨rfl, by repeat (first | exact Below.refl _ _ | assumption | refine below_drewN ?_ _ | refine Below.drew ?_ | refine Below.alloc ?_ (Nat.le_refl _) _ | refine bal ?_ _ | refine bnext ?_ (by assumption))⟩)
        · clear hS8
          go_wp2_with fail
          refine (Sum16_one HC.out (Below.refl _ _) (by simp) HLC.out).mono ?_
          rintro e w3 ⟨rfl, hb3⟩
          rw [HX.out]
          go_wp2_with fail
          refine (Sum16_one HA.out (bnext hb hb3) (by simp) HL4.out).mono ?_
          rintro e w4 ⟨rfl, hb4⟩
          rw [HY.out]
          go_wp2_with fail
          (refine (awake_any _).mono ?_; rintro e w9 ⟨rfl, hb9⟩; go_wp2_with fail; go_ret; exact ⟨rfl, by repeat (first | exact Below.refl _ _ | assumption | refine below_drewN ?_ _ | refine Below.drew ?_ | refine Below.alloc ?_ (Nat.le_refl _) _ | refine bal ?_ _ | refine bnext ?_ (by assumption))⟩)
end Go.Proofs.Ytjfjkmbokiinbaa
