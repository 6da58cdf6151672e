/-
  burst.Of: its walk.
-/
import Derived.Test.YticfmhmkgcdhgaaOfL18
import Derived.BigRegion
import Derived.StillTailTactics
namespace Go.Proofs.Yticfmhmkgcdhgaa
open Go.RowKit
open Crc (burstB dmg bl bk bits8 bitsOf bits8_le bitsOf_le)

set_option maxRecDepth 100000 in
set_option maxHeartbeats 1600000 in
theorem Of_any (a b : List UInt8) (A B : Option Addr) (c d : Nat) (w : World) (ra : Rd w A (bv a)) (rb : Rd w B (bv b)) (hl : a.length = b.length) (h1k : a.length ≤ 1000) :
    Calls Try.prog 26 #[.slice A a.length c, .slice B b.length d] w fun e w' => e = .returned (.tuple #[.agg #[.int .i64 ((ofX (8 * a.length) (bitsOf a) (bitsOf b)).1.a : Int), .int .i64 ((ofX (8 * a.length) (bitsOf a) (bitsOf b)).1.n : Int), .int .i64 ((ofX (8 * a.length) (bitsOf a) (bitsOf b)).1.p : Int)], .int .i64 (ofX (8 * a.length) (bitsOf a) (bitsOf b)).2]) ∧ Below w.heap.size w w' := by
  rw [← hl]
  have Ra := Lib.hid ra
  have Rb := Lib.hid rb
  have Hl := Lib.hid hl
  clear ra rb hl
  have hne : ((a.length : Int) != (a.length : Int)) = false := by simp
  go_enter Try.func26, Try.ntmps26
  go_wp2_with fail
  go_loopw [6, 7, 8, 20] (fun f t x8 i wr => ∃ k : Nat, k ≤ 8 * a.length ∧ i = .int .i64 k ∧ f = .int .i64 (flS (bitsOf a) (bitsOf b) k).1 ∧ t = .int .i64 (flS (bitsOf a) (bitsOf b) k).2 ∧ Hid (Below w.heap.size w wr) ∧ Hid (wr.heap[w.heap.size]? = some (.cells #[.int .i64 0, .int .i64 0, .int .i64 0] 28 (0, 0)))) (fun _ _ _ i _ => 8 * a.length - (intOf i).toNat)
  case atStart => exact ⟨0, by omega, rfl, rfl, rfl, Lib.hid (by repeat (first | exact Below.refl _ _ | assumption | refine below_drewN ?_ _ | refine Below.drew ?_ | refine Below.alloc ?_ (Nat.le_refl _) _ | refine bal ?_ _ | refine bnext ?_ (by assumption))), heap_alloc_last w _⟩
  case round =>
    obtain ⟨k, hk, rfl, rfl, rfl, Hb, HB⟩ := hrel
    by_cases hkk : k < 8 * a.length
    · have hk8 : (k : Int) / 8 < a.length := by omega
      have hk80 : (0 : Int) ≤ (k : Int) / 8 := by omega
      have hk8n : ((k : Int) / 8).toNat = k / 8 := by omega
      have hka : k / 8 < a.length := by omega
      have hkb : k / 8 < b.length := by have := Hl.out; omega
      obtain ⟨b1, o1, rfl, hx⟩ := (Ra.out.below Hb.out).at_ (j := k / 8) (by rw [bv_length]; exact hka)
      obtain ⟨b2, o2, rfl, hy⟩ := (Rb.out.below Hb.out).at_ (j := k / 8) (by rw [bv_length]; exact hkb)
      have e1 := bv_get a (k / 8) hka
      have e2 := bv_get b (k / 8) hkb
      rw [List.getElem?_eq_getElem (by rw [bv_length]; exact hka)] at e1
      rw [List.getElem?_eq_getElem (by rw [bv_length]; exact hkb)] at e2
      rw [Option.some.inj e1] at hx
      rw [Option.some.inj e2] at hy
      clear e1 e2
      have Hd := Lib.hid (dl_bytes a b k hka hkb)
      have hx0 := a[k / 8].toNat_lt
      have hy0 := b[k / 8].toNat_lt
      generalize a[k / 8].toNat = x at *
      generalize b[k / 8].toNat = y at *
      have Hbt := Lib.hid (bit_test x y (k % 8) hx0 hy0 (by omega))
      have Hfl : Hid (flS (bitsOf a) (bitsOf b) (k + 1) = if dl (bitsOf a) (bitsOf b) k = 1 then (if (flS (bitsOf a) (bitsOf b) k).1 < 0 then (k : Int) else (flS (bitsOf a) (bitsOf b) k).1, (k : Int)) else flS (bitsOf a) (bitsOf b) k) := rfl
      have Hsp := Lib.hid (flS_spec (bitsOf a) (bitsOf b) k)
      generalize flS (bitsOf a) (bitsOf b) k = F at *
      by_cases hdl : dl (bitsOf a) (bitsOf b) k = 1
      · have hgt := Hbt.out.2 (by rw [← Hd.out]; exact hdl)
        have Hf2 : Hid (flS (bitsOf a) (bitsOf b) (k + 1) = (if F.1 < 0 then (k : Int) else F.1, (k : Int))) := by show _ = _; rw [Hfl.out, if_pos hdl]
        by_cases hF : F.1 < 0
        · rw [if_pos hF] at Hf2
          go_wp2_with fail
          go_quiet (fail)
          go_wp2_with fail
          go_roundw
          case rel => exact ⟨k + 1, by omega, by go_num, by rw [Hf2.out], by rw [Hf2.out], below_drewN Hb.out _, hrow_below HB.out (below_drewN (Below.refl _ wr) _)⟩
          case measure => simp [intOf] <;> omega
        · rw [if_neg hF] at Hf2
          go_wp2_with fail
          go_quiet (fail)
          go_wp2_with fail
          go_roundw
          case rel => exact ⟨k + 1, by omega, by go_num, by rw [Hf2.out], by rw [Hf2.out], below_drewN Hb.out _, hrow_below HB.out (below_drewN (Below.refl _ wr) _)⟩
          case measure => simp [intOf] <;> omega
      · have hgt : ¬ 0 < bits .and .u8 (bits .xor .u8 (x : Int) (y : Int)) (128 / 2 ^ (k % 8)) := fun h => hdl (by rw [Hd.out]; exact Hbt.out.1 h)
        have Hf2 : Hid (flS (bitsOf a) (bitsOf b) (k + 1) = F) := by show _ = _; rw [Hfl.out, if_neg hdl]
        go_wp2_with fail
        go_quiet (fail)
        go_wp2_with fail
        go_roundw
        case rel => exact ⟨k + 1, by omega, by go_num, by rw [Hf2.out], by rw [Hf2.out], below_drewN Hb.out _, hrow_below HB.out (below_drewN (Below.refl _ wr) _)⟩
        case measure => simp [intOf] <;> omega
    · obtain rfl : k = 8 * a.length := by omega
      rcases flS_spec (bitsOf a) (bitsOf b) (8 * a.length) with ⟨e, -⟩ | ⟨f, t, e, g1, g2, -⟩
      · have HX : Hid (ofX (8 * a.length) (bitsOf a) (bitsOf b) = (⟨0, 0, 0⟩, 20)) := by show _ = _; unfold ofX; rw [e, if_pos (by simp)]
        rw [e]
        have hB0 := cell_of_row _ _ 0 _ _ _ HB.out
        have hB1 := cell_of_row _ _ 1 _ _ _ HB.out
        have hB2 := cell_of_row _ _ 2 _ _ _ HB.out
        have hf0 := free_blk HB.out
        go_wp2_with fail
        exact bodyPost_ret (results_row_tmp Try.results26 _ _ _ rfl rfl (hrow_set (hrow_set (hrow_set HB.out rfl) rfl) rfl) Try.underlying28 rfl (by kernel_rfl)) rfl ⟨by rw [HX.out]; rfl, ((Hb.out.setCell (p := ⟨w.heap.size, 0, none⟩) (Nat.le_refl _) _).setCell (p := ⟨w.heap.size, 1, none⟩) (Nat.le_refl _) _).setCell (p := ⟨w.heap.size, 2, none⟩) (Nat.le_refl _) _⟩
      · have hft : (0 : Int) ≤ f := by omega
        have HFL := Lib.hid e
        rw [e]
        by_cases h16 : (t : Int) - f + 1 > 16
        · have HX : Hid (ofX (8 * a.length) (bitsOf a) (bitsOf b) = (⟨0, 0, 0⟩, 10)) := by show _ = _; unfold ofX; rw [e]; simp only; rw [if_neg (by omega), if_pos h16]
          have HB2 := hrow_alloc HB.out (.cells #[.int .i64 f, .int .i64 ((t : Int) - f + 1), .int .i64 0] 28)
          have hB0 := cell_of_row _ _ 0 _ _ _ HB2
          have hB1 := cell_of_row _ _ 1 _ _ _ HB2
          have hB2 := cell_of_row _ _ 2 _ _ _ HB2
          have hf0 := free_blk HB2
          have hb2 := bal Hb.out (.cells #[.int .i64 f, .int .i64 ((t : Int) - f + 1), .int .i64 0] 28)
          go_wp2_with fail
          exact bodyPost_ret (results_row_tmp Try.results26 _ _ _ rfl rfl (hrow_set (hrow_set (hrow_set HB2 rfl) rfl) rfl) Try.underlying28 rfl (by kernel_rfl)) rfl ⟨by rw [HX.out]; rfl, ((hb2.setCell (p := ⟨w.heap.size, 0, none⟩) (Nat.le_refl _) _).setCell (p := ⟨w.heap.size, 1, none⟩) (Nat.le_refl _) _).setCell (p := ⟨w.heap.size, 2, none⟩) (Nat.le_refl _) _⟩
        · obtain ⟨n, hn⟩ : ∃ n : Nat, t = f + n := ⟨t - f, by omega⟩
          have hnI : (t : Int) - f + 1 = (n : Int) + 1 := by omega
          have hn16 : ¬ ((n : Int) + 1 > 16) := by omega
          have HX : Hid (ofX (8 * a.length) (bitsOf a) (bitsOf b) = (⟨f, n + 1, ptS (bitsOf a) (bitsOf b) f (n + 1)⟩, 0)) := by
            show _ = _
            have := ofX_two (8 * a.length) (bitsOf a) (bitsOf b) f t e (by omega) (by omega)
            rw [this, show t - f + 1 = n + 1 from by omega]
          have Hn := Lib.hid hn
          have HB2 := Lib.hid (hrow_alloc HB.out (.cells #[.int .i64 f, .int .i64 ((n : Int) + 1), .int .i64 0] 28))
          have Hb2 := Lib.hid (bal Hb.out (.cells #[.int .i64 f, .int .i64 ((n : Int) + 1), .int .i64 0] 28))
          have HX2 := Lib.hid (heap_alloc_last wr (.cells #[.int .i64 f, .int .i64 ((n : Int) + 1), .int .i64 0] 28))
          have HBs : Hid (w.heap.size < wr.heap.size) := (Array.getElem?_eq_some_iff.1 HB.out).1
          have hn1 : (n : Int) ≤ 16 := by omega
          have hf8 : (f : Int) ≤ 8000 := by omega
          clear hn e HFL hk hkk
          go_wp2_with fail
          generalize wr.alloc (.cells #[.int .i64 f, .int .i64 ((n : Int) + 1), .int .i64 0] 28) = wo at *
          obtain ⟨BX, hBX⟩ : ∃ BX, wr.heap.size = BX := ⟨_, rfl⟩
          rw [hBX] at HX2 HBs ⊢
          clear hBX HB Hb
          go_loopw [10] (fun i w2 => ∃ K : Nat, f ≤ K ∧ K ≤ f + n + 1 ∧ i = .int .i64 K ∧ Hid (w2.heap[BX]? = some (.cells #[.int .i64 f, .int .i64 ((n : Int) + 1), .int .i64 (ptS (bitsOf a) (bitsOf b) f (K - f) : Nat)] 28 (0, 0))) ∧ Hid (w2.heap[w.heap.size]? = some (.cells #[.int .i64 0, .int .i64 0, .int .i64 0] 28 (0, 0))) ∧ Hid (Below w.heap.size w w2)) (fun i _ => f + n + 1 - (intOf i).toNat)
          case atStart => exact ⟨f, by omega, by omega, rfl, by rw [Nat.sub_self]; exact HX2.out, HB2.out, Hb2.out⟩
          case round =>
            obtain ⟨k, hj0, hj, rfl, HXj, HBj, Hbj⟩ := hrel
            by_cases hjj : k < f + n + 1
            · have htj : (k : Int) ≤ t := by have := Hn.out; omega
              have hkl : k < 8 * a.length := by have := Hn.out; omega
              have hk8 : (k : Int) / 8 < a.length := by omega
              have hk80 : (0 : Int) ≤ (k : Int) / 8 := by omega
              have hk8n : ((k : Int) / 8).toNat = k / 8 := by omega
              have hka : k / 8 < a.length := by omega
              have hkb : k / 8 < b.length := by have := Hl.out; omega
              obtain ⟨b1, o1, rfl, hx⟩ := (Ra.out.below Hbj.out).at_ (j := k / 8) (by rw [bv_length]; exact hka)
              obtain ⟨b2, o2, rfl, hy⟩ := (Rb.out.below Hbj.out).at_ (j := k / 8) (by rw [bv_length]; exact hkb)
              have e1 := bv_get a (k / 8) hka
              have e2 := bv_get b (k / 8) hkb
              rw [List.getElem?_eq_getElem (by rw [bv_length]; exact hka)] at e1
              rw [List.getElem?_eq_getElem (by rw [bv_length]; exact hkb)] at e2
              rw [Option.some.inj e1] at hx
              rw [Option.some.inj e2] at hy
              clear e1 e2
              have hd := dl_bytes a b k hka hkb
              have hx0 := a[k / 8].toNat_lt
              have hy0 := b[k / 8].toNat_lt
              have Hnx : Hid (ptS (bitsOf a) (bitsOf b) f (k + 1 - f) = 2 * ptS (bitsOf a) (bitsOf b) f (k - f) + dl (bitsOf a) (bitsOf b) k) := by
                show _ = _
                rw [show k + 1 - f = (k - f) + 1 from by omega, ptS, show f + (k - f) = k from by omega]
              have hpl : ptS (bitsOf a) (bitsOf b) f (k - f) < 65536 := Nat.lt_of_lt_of_le (ptS_lt _ _ _ _) (show 2 ^ (k - f) ≤ 2 ^ 16 from Nat.pow_le_pow_right (by omega) (by omega))
              rw [hd] at Hnx
              clear hd
              generalize a[k / 8].toNat = x at *
              generalize b[k / 8].toNat = y at *
              generalize ptS (bitsOf a) (bitsOf b) f (k - f) = P at *
              have hg := bit_get x y (k % 8) hx0 hy0 (by omega)
              obtain ⟨bt, hbt⟩ : ∃ bt, (x ^^^ y) / 2 ^ (7 - k % 8) % 2 = bt := ⟨_, rfl⟩
              have hbt2 : bt < 2 := by rw [← hbt]; omega
              rw [hbt] at hg Hnx
              clear hbt
              have hs0 : (0 : Int) ≤ 7 - (k : Int) % 8 := by omega
              have hsn : ((7 : Int) - (k : Int) % 8).toNat = 7 - k % 8 := by omega
              have hs64 : min (7 - k % 8) 64 = 7 - k % 8 := by omega
              have hs63 : min (7 - k % 8) 8 = 7 - k % 8 := by omega
              have hw1 : IntKind.i64.wrap (2 * (P : Int)) = 2 * (P : Int) := by rw [IntKind.wrap_i64]; omega
              have hw2 : IntKind.i64.wrap (2 * (P : Int) + bt) = 2 * (P : Int) + bt := by rw [IntKind.wrap_i64]; omega
              have hw3 : IntKind.i64.wrap (bt : Int) = (bt : Int) := by rw [IntKind.wrap_i64]; omega
              have hw5 : IntKind.i64.wrap ((k : Int) / 8) = (k : Int) / 8 := by rw [IntKind.wrap_i64]; omega
              have hw6 : IntKind.i64.wrap ((k : Int) % 8) = (k : Int) % 8 := by rw [IntKind.wrap_i64]; omega
              have htm : (k : Int).tmod 8 = (k : Int) % 8 := Int.tmod_eq_emod_of_nonneg (by omega)
              have hw4 : IntKind.i64.wrap (7 - (k : Int) % 8) = 7 - (k : Int) % 8 := by rw [IntKind.wrap_i64]; omega
              have hx0 := cell_of_row _ _ 0 _ _ _ HXj.out
              have hx1 := cell_of_row _ _ 1 _ _ _ HXj.out
              have hx2 := cell_of_row _ _ 2 _ _ _ HXj.out
              have hf0 := free_blk HXj.out
              go_wp2_with fail
              refine wp_region_still_tail 22 (by kernel_rfl) (by kernel_rfl) ?_
              simp only [List.take_succ_cons, List.take_zero, List.drop_succ_cons, List.drop_zero]
              repeat still_step
              refine wpStill_nil ?_
              change wpList _ _ _ _ _ wr.drew
              have hx2d : wr.drew.cell? ⟨BX, 2, none⟩ = some (.int .i64 (P : Int)) := hx2
              have hf2d : wr.drew.frozen? ⟨BX, 2, none⟩ = false := hf0 2
              go_wp2_with fail
              go_roundw
              case rel =>
                refine ⟨k + 1, by omega, by omega, by go_num, ?_, ?_, ?_⟩
                · rw [Hnx.out]
                  have h := hrow_set (i := 2) (v := .int .i64 (2 * (P : Int) + bt)) HXj.out rfl
                  simp only [Int.natCast_add, Int.natCast_mul, Int.cast_ofNat_Int]
                  exact h
                · exact (heap_setCell_other wr _ _ _ (by have := HBs.out; show w.heap.size ≠ BX; omega)).trans HBj.out
                · exact Below.drew (Hbj.out.setCell (p := ⟨BX, 2, none⟩) (Nat.le_of_lt HBs.out) _)
              case measure => simp [intOf] <;> omega
            · obtain rfl : k = f + n + 1 := by omega
              have htj : ¬ (((f + n + 1 : Nat) : Int) ≤ t) := by have := Hn.out; omega
              rw [show f + n + 1 - f = n + 1 from by omega] at HXj
              have hx0 := cell_of_row _ _ 0 _ _ _ HXj.out
              have hx1 := cell_of_row _ _ 1 _ _ _ HXj.out
              have hx2 := cell_of_row _ _ 2 _ _ _ HXj.out
              have hB0 := cell_of_row _ _ 0 _ _ _ HBj.out
              have hB1 := cell_of_row _ _ 1 _ _ _ HBj.out
              have hB2 := cell_of_row _ _ 2 _ _ _ HBj.out
              have hf0 := free_blk HBj.out
              generalize f + n + 1 = kk at *
              go_wp2_with fail
              exact bodyPost_ret (results_row_tmp Try.results26 _ _ _ rfl rfl (hrow_set (hrow_set (hrow_set HBj.out rfl) rfl) rfl) Try.underlying28 rfl (by kernel_rfl)) rfl ⟨by rw [HX.out]; rfl, ((Hbj.out.setCell (p := ⟨w.heap.size, 0, none⟩) (Nat.le_refl _) _).setCell (p := ⟨w.heap.size, 1, none⟩) (Nat.le_refl _) _).setCell (p := ⟨w.heap.size, 2, none⟩) (Nat.le_refl _) _⟩
end Go.Proofs.Yticfmhmkgcdhgaa
