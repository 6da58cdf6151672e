/-
  header.Make: its walk.
-/
import Derived.Test.YtgohfbfdhdepnaaDoorMkb08
namespace Go.Proofs.YtgohfbfdhdepnaaDoor
open Go.RowKit

set_option maxRecDepth 100000 in
set_option maxHeartbeats 8000000 in
theorem Make_any (V : Bool) (n b m rate chans depth : Int) (hbad : ¬ badM b rate depth) (w : World) (ht : HTabs w) :
    Calls Tryd.prog 15 #[.bool V, .int .i64 n, .int .i64 b, .int .i64 m, .agg #[.int .i64 rate, .int .i64 chans, .int .i64 depth]] w fun e w' => e = .returned (.tuple #[(mkR V n b m rate chans depth).val, .int .i64 (mkE V n b m rate chans depth)]) ∧ Below w.heap.size w w' := by
  have HT := Lib.hid ht
  have HE : Hid (mkE V n b m rate chans depth = if chanM m chans = 0 then chkE (mkH V n b m rate depth) else chanM m chans) := if_neg hbad
  have HMR0 : Hid (mkE V n b m rate chans depth = 0 → mkR V n b m rate chans depth = mkH V n b m rate depth) := fun h => if_pos h
  have HMR1 : Hid (mkE V n b m rate chans depth ≠ 0 → mkR V n b m rate chans depth = Hd.zero) := fun h => if_neg h
  generalize mkR V n b m rate chans depth = MR at *
  generalize mkE V n b m rate chans depth = E at *
  have hbad' : ¬ b < 1 ∧ ¬ 65535 < b ∧ ¬ rate < 0 ∧ ¬ 1048575 < rate ∧ ¬ depth < 4 ∧ ¬ 32 < depth := by unfold badM at hbad; omega
  obtain ⟨h1, h2, h3, h4, h5, h6⟩ := hbad'
  have h2' : ¬ b > 65535 := h2
  have h4' : ¬ rate > 1048575 := h4
  have h6' : ¬ depth > 32 := h6
  clear hbad ht
  have HC := Lib.hid (fun W => Channels_any m W)
  have HWr : Hid (∀ W, Calls Tryd.prog 34 #[.bool (chN m != chans), .int .i64 22] W fun e w' => e = .returned (.int .i64 (if (chN m != chans) then (22 : Int) else 0)) ∧ w' = W) := fun W => wrong_any _ 22 W
  have HCM : Hid (chanM m chans = fstE [chE m, if (chN m != chans) then (22 : Int) else 0]) := rfl
  generalize (if (chN m != chans) then (22 : Int) else 0) = yc at *
  generalize chE m = xe at *
  have HFi : Hid (∀ (g : Nat) W, W.heap[g]? = some (.cells #[.int .i64 xe, .int .i64 yc] 24 (0, 0)) → Calls Tryd.prog 33 #[.slice (some ⟨g, 0, none⟩) 2 2] W fun e w' => e = .returned (.int .i64 (chanM m chans)) ∧ w' = W) := fun g W hg => by rw [HCM.out]; exact first_any [xe, yc] _ 2 W (rd_row hg _ rfl) (by show 2 ≤ 100; omega)
  clear HCM
  generalize chanM m chans = C at *
  obtain ⟨w2, hw2⟩ : ∃ w2, (w.alloc (.cells #[.int .i64 rate, .int .i64 chans, .int .i64 depth] 38)).alloc (.cells Hd.zero.cells 23) = w2 := ⟨_, rfl⟩
  have hs2 : w2.heap.size = w.heap.size + 1 + 1 := by rw [← hw2]; simp
  have hp2 : w2.heap[w.heap.size]? = some (.cells #[.int .i64 rate, .int .i64 chans, .int .i64 depth] 38 (0, 0)) := by rw [← hw2]; exact hrow_alloc (heap_alloc_last w _) _
  have hr2 : HdAt w2 (w.heap.size + 1) Hd.zero := by
    have h := heap_alloc_last (w.alloc (.cells #[.int .i64 rate, .int .i64 chans, .int .i64 depth] 38)) (.cells Hd.zero.cells 23)
    rw [World.size_alloc] at h
    rw [← hw2]
    exact h
  have hb2 : Below w.heap.size w w2 := by rw [← hw2]; exact bal (bal (Below.refl _ _) _) _
  have hq1 := cell_of_row w2 _ 0 _ _ _ hp2
  have hq2 := cell_of_row w2 _ 1 _ _ _ hp2
  have hq3 := cell_of_row w2 _ 2 _ _ _ hp2
  simp only [List.getElem?_toArray, List.getElem?_cons_zero, List.getElem?_cons_succ] at hq1 hq2 hq3
  simp only [Hd.zero, Hd.cells] at hw2
  have Hw2 := Lib.hid hw2
  have Hs2 := Lib.hid hs2
  clear hw2 hs2
  go_enter Tryd.func15, Tryd.ntmps15
  go_upto_region 1 with fail
  rw [Hw2.out]
  go_wp2_with fail
  refine (HC.out _).mono ?_
  rintro e w2' ⟨rfl, rfl⟩
  go_wp2_with fail
  refine (HWr.out _).mono ?_
  rintro e w2' ⟨rfl, rfl⟩
  go_wp2_with fail
  refine (HFi.out _ _ (heap_alloc_last _ _)).mono ?_
  rintro e w3 ⟨rfl, rfl⟩
  obtain ⟨w3, hw3⟩ : ∃ w3, w2'.alloc (.cells #[.int .i64 xe, .int .i64 yc] 24) = w3 := ⟨_, rfl⟩
  have hs3 : w3.heap.size = w.heap.size + 1 + 1 + 1 := by rw [← hw3, World.size_alloc, Hs2.out]
  have hb3 : Below w.heap.size w w3 := by rw [← hw3]; exact bal hb2 _
  have hr3 : HdAt w3 (w.heap.size + 1) Hd.zero := by rw [← hw3]; exact hrow_alloc hr2 _
  have hp3 : w3.heap[w.heap.size]? = some (.cells #[.int .i64 rate, .int .i64 chans, .int .i64 depth] 38 (0, 0)) := by rw [← hw3]; exact hrow_alloc hp2 _
  rw [hw3]
  clear hw3 hq1 hq2 hq3 hb2 hr2 hp2 Hs2 HFi HWr HC Hw2
  by_cases hC : C = 0
  case neg =>
    have hE : E = C := by rw [HE.out, if_neg hC]
    have hC' : (C != 0) = true := by rw [bne_iff_ne]; exact hC
    have HF : Hid ((Ending.returned (.tuple #[.agg Hd.zero.cells, .int .i64 C]) : Ending) = .returned (.tuple #[MR.val, .int .i64 E])) := by
      show _ = _
      rw [HMR1.out (by rw [hE]; exact hC), hE]; rfl
    clear HE hE hC HMR0 HMR1
    go_wp2_with (refine wpList_store_row (c := Hd.zero.cells) (c' := Hd.zero.cells) (t := 23) rfl 23 _ _ rfl (w.heap.size + 1) rfl rfl hr3 (by kernel_rfl) rfl (Hd.one _) ?_)
    exact bodyPost_ret (results_row_tmp (cs := Hd.zero.cells) (t := 23) (fr := (0, 0)) (g := w.heap.size + 1) Tryd.results15 _ _ _ rfl rfl (setRow_heap _ (w.heap.size + 1) _ _ 23 (0, 0) hr3) Tryd.underlying23 rfl (by kernel_rfl)) rfl ⟨HF.out, Below.setRow hb3 (Nat.le_succ _) _⟩
  subst hC
  have hE : Hid (E = chkE (mkH V n b m rate depth)) := by show _ = _; rw [HE.out, if_pos rfl]
  clear HE
  have HIb : Hid (∀ W, Below w.heap.size w W → Calls Tryd.prog 43 #[.slice (some ⟨0, 0, none⟩) 16 16, .int .i64 b] W fun e w' => e = .returned (.int .i64 (idxL blkL b)) ∧ w' = W) := fun W hb => Index_any blkL _ 16 b W (rd_tab blkL (HT.out.below hb).blk) (by decide)
  have HIr : Hid (∀ W, Below w.heap.size w W → Calls Tryd.prog 43 #[.slice (some ⟨1, 0, none⟩) 16 16, .int .i64 rate] W fun e w' => e = .returned (.int .i64 (idxL ratL rate)) ∧ w' = W) := fun W hb => Index_any ratL _ 16 rate W (rd_tab ratL (HT.out.below hb).rat) (by decide)
  have HId : Hid (∀ W, Below w.heap.size w W → Calls Tryd.prog 43 #[.slice (some ⟨2, 0, none⟩) 8 8, .int .i64 depth] W fun e w' => e = .returned (.int .i64 (idxL depL depth)) ∧ w' = W) := fun W hb => Index_any depL _ 8 depth W (rd_tab depL (HT.out.below hb).dep) (by decide)
  have Hbc : Hid (bcOf b = if idxL blkL b < 0 then 7 - (bitV (decide (b ≤ 256)) : Int) else idxL blkL b) := rfl
  have Hrc : Hid (rcOf rate = if idxL ratL rate < 0 then rcAt rate 3 else idxL ratL rate) := rfl
  have Hdc : Hid (dcOf depth = max 0 (idxL depL depth)) := rfl
  have Hdc8 : Hid (dcOf depth < 8) := dcOf_lt depth
  have Hmk : Hid (mkH V n b m rate depth = ⟨V, bcOf b, rcOf rate, m, dcOf depth, n, b, if 0 < rcOf rate then rate else 0, depL.getD (dcOf depth).toNat 0⟩) := rfl
  generalize mkH V n b m rate depth = MH at *
  generalize bcOf b = bc at *
  generalize rcOf rate = rc at *
  generalize dcOf depth = dc at *
  generalize idxL blkL b = ib at *
  generalize idxL ratL rate = ir at *
  generalize idxL depL depth = id at *
  have HN := Lib.hid (fun (h : Hd) => Mk.new hs3 hp3 hr3 hb3 h)
  have Hb3 := Lib.hid hb3
  clear hb3 hr3 hp3
  go_upto_if 73 with fail
  refine (HIb.out _ (bal Hb3.out _)).mono ?_
  rintro e w4 ⟨rfl, rfl⟩
  clear HIb
  go_upto_if 73 with fail
  go_cut [] (fun wx => Mk w wx rate chans depth ⟨V, bc, 0, m, 0, n, b, 0, 0⟩)
  case first =>
    by_cases hi : ib < 0
    · have hbc : bc = 7 - (bitV (decide (b ≤ 256)) : Int) := by rw [Hbc.out, if_pos hi]
      go_wp2_with fail
      refine (bit_any _ _).mono ?_
      rintro e w5 ⟨rfl, rfl⟩
      have hq1 : bitV (decide (b ≤ 256)) ≤ 1 := by unfold bitV; split <;> omega
      generalize bitV (decide (b ≤ 256)) = q at *
      go_wp2_with fail
      go_meet
      have hw : wrap64 (7 - (q : Int)) = 7 - q := by unfold wrap64; omega
      try rw [hw]
      rw [hbc]
      exact HN.out ⟨V, 7 - (q : Int), 0, m, 0, n, b, 0, 0⟩
    · have hbc : bc = ib := by rw [Hbc.out, if_neg hi]
      go_wp2_with fail
      go_meet
      rw [hbc]
      exact HN.out ⟨V, ib, 0, m, 0, n, b, 0, 0⟩
  case rest =>
    obtain ⟨w5, hw5⟩ : ∃ w5, wc = w5 := ⟨_, rfl⟩
    rw [hw5] at hcut ⊢
    clear hw5
    have HM := Lib.hid hcut
    clear hcut HN Hbc hs3
    go_upto_region 11 with fail
    have hp0 := HM.out.p0
    refine wp_region_still_tail 5 (by kernel_rfl) (by kernel_rfl) ?_
    simp only [List.take_succ_cons, List.take_zero, List.drop_succ_cons, List.drop_zero]
    repeat still_step
    still_call (HIr.out _ HM.out.b.drew)
    repeat still_step
    refine wpStill_nil ?_
    change wpList _ _ _ _ _ w5.drew
    have HM6 : Hid (Mk w w5.drew rate chans depth ⟨V, bc, 0, m, 0, n, b, 0, 0⟩) := HM.out.below (Below.refl _ _).drew
    clear HM hp0 HIr
    generalize w5.drew = w6 at *
    have hf := HM6.out.fz 2
    have hf2 := HM6.out.h.c 2 (.int .i64 0) rfl
    have HM7 : Hid (Mk w (w6.setCell ⟨w.heap.size + 1 + 1 + 1, 2, none⟩ (.int .i64 ir)) rate chans depth ⟨V, bc, ir, m, 0, n, b, 0, 0⟩) := HM6.out.set 2 _ _ rfl
    have hc2 := HM7.out.h.c 2 (.int .i64 ir) rfl
    go_upto_if 86 with fail
    obtain ⟨w7, hw7⟩ : ∃ w7, w6.setCell ⟨w.heap.size + 1 + 1 + 1, 2, none⟩ (.int .i64 ir) = w7 := ⟨_, rfl⟩
    rw [hw7] at HM7 ⊢
    clear hw7 hc2 hf hf2 HM6
    go_cut [15, 16] (fun _ _ wx => Mk w wx rate chans depth ⟨V, bc, rc, m, 0, n, b, 0, 0⟩)
    case first =>
      by_cases hi : ir < 0
      · have hrc : Hid (rc = rcAt rate 3) := by show _ = _; rw [Hrc.out, if_pos hi]
        have hd : decide (ir < 0) = true := decide_eq_true hi
        rw [hd]
        clear Hrc Hdc hd
        have hf7 := HM7.out.fz 2
        have hc7 := HM7.out.h.c 2 (.int .i64 ir) rfl
        have HM8 : Hid (Mk w (w7.setCell ⟨w.heap.size + 1 + 1 + 1, 2, none⟩ (.int .i64 0)) rate chans depth ⟨V, bc, 0, m, 0, n, b, 0, 0⟩) := HM7.out.set 2 _ _ rfl
        go_upto_region 14 with fail
        clear hf7 hc7 HM7
        generalize w7.setCell ⟨w.heap.size + 1 + 1 + 1, 2, none⟩ (.int .i64 0) = w8 at *
        go_wp2_with fail
        go_loopw [15, 16] (fun c p wr => ∃ k : Nat, k ≤ 3 ∧ c = .int .i64 (14 - (k : Int)) ∧ Hid (Mk w wr rate chans depth ⟨V, bc, rcAt rate k, m, 0, n, b, 0, 0⟩)) (fun c _ _ => (intOf c - 11).toNat)
        case atStart => exact ⟨0, by omega, by simp, HM8⟩
        case round =>
          obtain ⟨k, hk, rfl, HMk⟩ := hrel
          have hp0 := HMk.out.p0
          by_cases hkk : k < 3
          · have hge : decide ((14 - (k : Int)) ≥ 12) = true := decide_eq_true (by omega)
            have Hcn : Hid (rcAt rate (k + 1) = if rFits (14 - (k : Int)) rate then 14 - (k : Int) else rcAt rate k) := rfl
            have HRf := Lib.hid (fun W (hb : Below w.heap.size w W) => rateFits_any ⟨false, 0, 14 - (k : Int), 0, 0, 0, 0, rate, 0⟩ (by show 0 ≤ 14 - (k : Int); omega) (by show 14 - (k : Int) < 16; omega) (by show rate ≤ _; omega) W (HT.out.below hb))
            simp only [Hd.val] at HRf
            generalize rFits (14 - (k : Int)) rate = bb at *
            obtain ⟨c, hc⟩ : ∃ c : Int, 14 - (k : Int) = c := ⟨_, rfl⟩
            rw [hc] at hge HRf Hcn ⊢
            have hc12 : c ≥ 12 := by omega
            have hc15 : c ≤ 14 := by omega
            have Hc := Lib.hid hc
            clear hc
            go_wp2_with fail
            refine (HRf.out _ (bal HMk.out.b _)).mono ?_
            rintro e w9 ⟨rfl, hb9⟩
            have HM9 : Hid (Mk w w9 rate chans depth ⟨V, bc, rcAt rate k, m, 0, n, b, 0, 0⟩) := HMk.out.below (bnext (bal (Below.refl _ _) _) hb9)
            clear HMk hp0 hb9
            have hf9 := HM9.out.fz 2
            have hc9 := HM9.out.h.c 2 (.int .i64 (rcAt rate k)) rfl
            cases bb
            · have hn : rcAt rate (k + 1) = rcAt rate k := Hcn.out
              go_wp2_with fail
              go_roundw
              case rel =>
                refine ⟨k + 1, by omega, ?_, ?_⟩
                · have := Hc.out
                  rw [show ((k + 1 : Nat) : Int) = (k : Int) + 1 from by omega, show c - 1 = 14 - ((k : Int) + 1) from by omega]
                · rw [hn]; exact HM9
              case measure => simp [intOf] <;> omega
            · have hn : rcAt rate (k + 1) = c := Hcn.out
              have HM10 : Hid (Mk w (w9.setCell ⟨w.heap.size + 1 + 1 + 1, 2, none⟩ (.int .i64 c)) rate chans depth ⟨V, bc, c, m, 0, n, b, 0, 0⟩) := HM9.out.set 2 _ _ rfl
              go_wp2_with fail
              go_roundw
              case rel =>
                refine ⟨k + 1, by omega, ?_, ?_⟩
                · have := Hc.out
                  rw [show ((k + 1 : Nat) : Int) = (k : Int) + 1 from by omega, show c - 1 = 14 - ((k : Int) + 1) from by omega]
                · rw [hn]; exact HM10
              case measure => simp [intOf] <;> omega
          · obtain rfl : k = 3 := by omega
            go_wp2_with fail
            go_meet
            rw [hrc.out]
            exact HMk.out
      · have hrc : rc = ir := by rw [Hrc.out, if_neg hi]
        subst hrc
        go_wp2_with fail
        go_meet
        exact HM7.out
    case rest =>
      obtain ⟨w8, hw8⟩ : ∃ w8, wc = w8 := ⟨_, rfl⟩
      rw [hw8] at hcut ⊢
      clear hw8
      have HM := Lib.hid hcut
      clear hcut Hrc HM7
      go_upto_region 20 with fail
      have hp2 := HM.out.p2
      refine wp_region_still_tail 4 (by kernel_rfl) (by kernel_rfl) ?_
      simp only [List.take_succ_cons, List.take_zero, List.drop_succ_cons, List.drop_zero]
      repeat still_step
      still_call (HId.out _ HM.out.b.drew)
      refine wpStill_nil ?_
      change wpList _ _ _ _ _ w8.drew
      have HM9 : Hid (Mk w w8.drew rate chans depth ⟨V, bc, rc, m, 0, n, b, 0, 0⟩) := HM.out.below (Below.refl _ _).drew
      clear HM hp2 HId
      generalize w8.drew = w9 at *
      have hf := HM9.out.fz 4
      have hf2 := HM9.out.h.c 4 (.int .i64 0) rfl
      have hf3 := HM9.out.h.c 2 (.int .i64 rc) rfl
      have HM10 : Hid (Mk w (w9.setCell ⟨w.heap.size + 1 + 1 + 1, 4, none⟩ (.int .i64 dc)) rate chans depth ⟨V, bc, rc, m, dc, n, b, 0, 0⟩) := HM9.out.set 4 _ _ rfl
      have hmax : (if 0 < id then id else (0 : Int)) = dc := by rw [Hdc.out]; split <;> omega
      have hdc0 : 0 ≤ dc := by rw [Hdc.out]; omega
      go_upto_if 108 with fail
      obtain ⟨w10, hw10⟩ : ∃ w10, w9.setCell ⟨w.heap.size + 1 + 1 + 1, 4, none⟩ (.int .i64 dc) = w10 := ⟨_, rfl⟩
      try rw [hmax]
      rw [hw10] at HM10 ⊢
      clear hw10 hf hf2 hf3 hmax HM9 Hdc
      have hp0 := HM10.out.p0
      go_cut [] (fun wx => Mk w wx rate chans depth ⟨V, bc, rc, m, dc, n, b, if 0 < rc then rate else 0, 0⟩)
      case first =>
        by_cases hr : 0 < rc
        · have hr' : rc > 0 := hr
          have hf := HM10.out.fz 7
          have hf2 := HM10.out.h.c 7 (.int .i64 0) rfl
          have hrw : (if 0 < rc then rate else 0) = rate := if_pos hr
          go_wp2_with fail
          go_meet
          rw [hrw]
          exact HM10.out.set 7 _ _ rfl
        · have hr' : ¬ rc > 0 := hr
          have hrw : (if 0 < rc then rate else 0) = 0 := if_neg hr
          go_wp2_with fail
          go_meet
          rw [hrw]
          exact HM10.out
      case rest =>
        obtain ⟨w11, hw11⟩ : ∃ w11, wc = w11 := ⟨_, rfl⟩
        rw [hw11] at hcut ⊢
        clear hw11
        have HM := Lib.hid hcut
        have hrr : (if 0 < rc then rate else 0) ≤ 9223372036854775807 := by split <;> omega
        generalize (if 0 < rc then rate else 0) = rr at *
        clear hcut HM10 hp0
        obtain ⟨dn, rfl⟩ : ∃ dn : Nat, dc = dn := ⟨dc.toNat, by omega⟩
        rw [Int.toNat_natCast] at Hmk
        have hdn : (dn : Int) < 8 := Hdc8.out
        have hdd := (HT.out.below HM.out.b).dep dn (by omega)
        generalize depL.getD dn 0 = dd at *
        have hf := HM.out.fz 8
        have hf2 := HM.out.h.c 8 (.int .i64 0) rfl
        have hf3 := HM.out.h.c 4 (.int .i64 dn) rfl
        have HM12 : Hid (Mk w (w11.setCell ⟨w.heap.size + 1 + 1 + 1, 8, none⟩ (.int .i64 dd)) rate chans depth MH) := by rw [Hmk.out]; exact HM.out.set 8 _ _ rfl
        have HCk := Lib.hid (fun W (hb : Below w.heap.size w W) => Check_any MH (by rw [Hmk.out]; exact hrr) W (HT.out.below hb))
        rw [← hE.out] at HCk
        go_upto_region 24 with fail
        clear hf hf2 hf3 hdd HM hdn
        generalize w11.setCell ⟨w.heap.size + 1 + 1 + 1, 8, none⟩ (.int .i64 dd) = w12 at *
        have HMR1' : Hid (E ≠ 0 → MR = Hd.zero) := HMR1.out
        have HMR0' : Hid (E = 0 → MR = MH) := HMR0.out
        clear HMR0 HMR1 Hmk hE HT Hdc8 Hb3
        go_wp2_with (refine wpList_load_row rfl 23 _ rfl (w.heap.size + 1 + 1 + 1) rfl 23 MH.cells (0, 0) _ HM12.out.h Tryd.underlying23 rfl (by kernel_rfl) ?_)
        refine (HCk.out _ HM12.out.b).mono ?_
        rintro e w13 ⟨rfl, hb13⟩
        have HM13 : Hid (Mk w w13 rate chans depth MH) := HM12.out.below hb13
        clear HM12 hb13 HCk
        by_cases hz : E = 0
        · subst hz
          obtain rfl := HMR0'.out rfl
          go_wp2_with (first | (refine wpList_load_row rfl 23 _ rfl (w.heap.size + 1 + 1 + 1) rfl 23 MR.cells (0, 0) _ HM13.out.h Tryd.underlying23 rfl (by kernel_rfl) ?_) | (refine wpList_store_row (c := Hd.zero.cells) (c' := MR.cells) (t := 23) rfl 23 _ _ rfl (w.heap.size + 1) rfl rfl HM13.out.r (by kernel_rfl) rfl (Hd.one _) ?_))
          exact bodyPost_ret (results_row_tmp (cs := MR.cells) (t := 23) (fr := (0, 0)) (g := w.heap.size + 1) Tryd.results15 _ _ _ rfl rfl (setRow_heap _ (w.heap.size + 1) _ _ 23 (0, 0) HM13.out.r) Tryd.underlying23 rfl (by kernel_rfl)) rfl ⟨rfl, Below.setRow HM13.out.b (Nat.le_succ _) _⟩
        · obtain rfl := HMR1'.out hz
          have hz' : (E != 0) = true := by rw [bne_iff_ne]; exact hz
          clear hz
          go_wp2_with (refine wpList_store_row (c := Hd.zero.cells) (c' := Hd.zero.cells) (t := 23) rfl 23 _ _ rfl (w.heap.size + 1) rfl rfl HM13.out.r (by kernel_rfl) rfl (Hd.one _) ?_)
          exact bodyPost_ret (results_row_tmp (cs := Hd.zero.cells) (t := 23) (fr := (0, 0)) (g := w.heap.size + 1) Tryd.results15 _ _ _ rfl rfl (setRow_heap _ (w.heap.size + 1) _ _ 23 (0, 0) HM13.out.r) Tryd.underlying23 rfl (by kernel_rfl)) rfl ⟨rfl, Below.setRow HM13.out.b (Nat.le_succ _) _⟩
end Go.Proofs.YtgohfbfdhdepnaaDoor
