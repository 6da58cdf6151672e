/-
  jetsamref11.Read: the walk.
-/
import Derived.Test.YtikgpohoggpldaaRefRd
namespace Go.Proofs.Ytikgpohoggpldaa
open Go.RowKit

theorem wrap_add_small (a b : Nat) (h : a + b < 9223372036854775808) : wrap64 ((a : Int) + b) = (a : Int) + b := by unfold wrap64; omega
theorem stK_le : ∀ k, k < 8 → stK k + fB k = stK (k + 1) ∧ stK (k + 1) ≤ 144 ∧ fB k ≤ 36 ∧ 1 ≤ fB k ∧ fT k < 8 ∧ fM k ≤ 1 := by decide

set_option maxRecDepth 100000 in
set_option maxHeartbeats 1000000 in
theorem refRead_34 (l : List Nat) (hl8 : ∀ x ∈ l, x < 256) (hl : l.length = 34) (A : Option Addr) (c : Nat) (w : World) (hr : Rd w A (nv8 l)) :
    Calls Try.prog 15 #[.slice A 34 c] w fun e w' => e = .returned (.agg (ofV (nK l 8 0) (nK l 8 1) (nK l 8 2) (nK l 8 3) (nK l 8 4) (nK l 8 5) (nK l 8 6) (nK l 8 7) (sK l 16))) ∧ Below w.heap.size w w' := by
  have Hl := Lib.hid hl
  have H8 := Lib.hid hl8
  have Hr := Lib.hid hr
  have h0 : 0 < l.length := by omega
  obtain ⟨b, o, hA, hcb⟩ := hr 0 (.int .u8 (l[0] : Nat)) (by simp [nv8, h0])
  subst hA
  have HB : Hid (b < w.heap.size) := cell_lt hcb
  clear hcb
  clear h0
  clear hr hl8
  clear hl
  obtain ⟨w2, hw2, hb2, hR, hG, hs2⟩ : ∃ w2, ((w.alloc (.cells (ofV 0 0 0 0 0 0 0 0 fun _ => 0) 46)).alloc (.cells (ofV 0 0 0 0 0 0 0 0 fun _ => 0) 46)) = w2 ∧ Below w.heap.size w w2 ∧ RfAt w2 w.heap.size (fun _ => 0) (fun _ => 0) ∧ RfAt w2 (w.heap.size + 1) (fun _ => 0) (fun _ => 0) ∧ w2.heap.size = w.heap.size + 2 :=
    ⟨_, rfl, by repeat (first | exact Below.refl _ _ | assumption | refine below_drewN ?_ _ | refine Below.drew ?_ | refine Below.alloc ?_ (Nat.le_refl _) _ | refine bal ?_ _ | refine bnext ?_ (by assumption)), hrow_alloc (heap_alloc_last w _) _, heap_alloc2_new w _ _, by simp⟩
  simp only [ofV] at hw2
  go_enter Try.func15, Try.ntmps15
  go_upto_region 3 with fail
  try rw [hw2]
  clear hw2
  go_wp2_with fail
  refine (fields_any _).mono ?_
  rintro e w3 ⟨rfl, hw3⟩
  have hF : w3.heap[w2.heap.size]? = some (.cells tabV 62 (0, 0)) := hw3 ▸ heap_alloc_last w2 _
  have hb3 : Below w.heap.size w w3 := by rw [hw3]; exact hb2.alloc (by omega) _
  replace hR : RfAt w3 w.heap.size (fun _ => 0) (fun _ => 0) := by rw [hw3]; exact hrow_alloc hR _
  replace hG : RfAt w3 (w.heap.size + 1) (fun _ => 0) (fun _ => 0) := by rw [hw3]; exact hrow_alloc hG _
  have hRG : w.heap.size ≠ w.heap.size + 1 := by omega
  have hFG : w2.heap.size ≠ w.heap.size + 1 := by omega
  have hGs : w.heap.size ≤ w.heap.size + 1 := by omega
  have hbG : b ≠ w.heap.size + 1 := by have := HB.out; omega
  clear hw3 hs2 hb2
  generalize w2.heap.size = F at *
  generalize w.heap.size + 1 = G at *
  obtain ⟨R, hRe⟩ : ∃ R, w.heap.size = R := ⟨_, rfl⟩
  rw [hRe] at hR hRG hGs ⊢
  have HRe := Lib.hid hRe
  clear hRe
  have HR := Lib.hid hR; clear hR
  have HG := Lib.hid hG; clear hG
  have HF := Lib.hid hF; clear hF
  have HB3 := Lib.hid hb3; clear hb3
  go_wp2_with fail
  go_loopw [4, 6] (fun at_ kv wr => ∃ k : Nat, k ≤ 8 ∧ kv = .int .i64 k ∧ at_ = .int .i64 (stK k : Nat) ∧ Hid (Below w.heap.size w wr) ∧ Hid (RfAt wr G (nK l k) fun _ => 0) ∧ Hid (RfAt wr R (fun _ => 0) fun _ => 0) ∧ Hid (wr.heap[F]? = some (.cells tabV 62 (0, 0)))) (fun _ kv _ => 8 - (intOf kv).toNat)
  case atStart => exact ⟨0, by omega, rfl, rfl, HB3, HG, HR, HF⟩
  case round =>
    clear HB3 HG HR HF
    obtain ⟨k, hk, rfl, rfl, HB3, HG, HR, HF⟩ := hrel
    by_cases hkk : k < 8
    · obtain ⟨ks1, ks2, ks3, ks4, ks5, ks6⟩ := stK_le k hkk
      obtain ⟨t1, t2, t3⟩ := tab_at k hkk
      have C1 : wr.cell? ⟨F, k * 3 + 1, none⟩ = some (.int .i64 (fB k : Nat)) := (cell_of_row wr F _ _ _ _ HF.out).trans t2
      have C0 : wr.cell? ⟨F, k * 3, none⟩ = some (.int .i64 (fT k : Nat)) := (cell_of_row wr F _ _ _ _ HF.out).trans t1
      have C2 : wr.cell? ⟨F, k * 3 + 2, none⟩ = some (.int .i64 (fM k : Nat)) := (cell_of_row wr F _ _ _ _ HF.out).trans t3
      clear t1 t2 t3
      have HN : Hid (nK l (k + 1) = upd (nK l k) (fT k) ((bitsN l (stK k) (fB k) + fM k : Nat) : Int)) := rfl
      generalize stK k = st at *
      generalize fB k = fb at *
      generalize fT k = ft at *
      generalize fM k = fm at *
      have Hks := Lib.hid ks1; clear ks1
      go_wp2_with fail
      go_loop [4, 7, 8] (fun at_ nv cv => ∃ q : Nat, q ≤ fb ∧ cv = .int .i64 q ∧ nv = .int .i64 (bitsN l st q : Nat) ∧ at_ = .int .i64 ((st + q : Nat) : Int)) (fun _ _ cv => fb - (intOf cv).toNat)
      case atStart => exact ⟨0, by omega, rfl, rfl, rfl⟩
      case round =>
        obtain ⟨q, hq, rfl, rfl, rfl⟩ := hrel
        by_cases hqq : q < fb
        · obtain ⟨p, hp⟩ : ∃ p, st + q = p := ⟨_, rfl⟩
          have hpl : p / 8 < l.length := by have := Hl.out; have := Hks.out; omega
          have hp34 : p / 8 < 34 := Nat.lt_of_lt_of_eq hpl Hl.out
          have hbit : Hid (bitsN l st (q + 1) = 2 * bitsN l st q + bitN l (st + q)) := rfl
          obtain ⟨b', o', hbo, hcd⟩ := (Hr.out.below HB3.out) (p / 8) (.int .u8 (l[p / 8] : Nat)) (by simp [nv8, hpl])
          injection hbo with hbo
          injection hbo with e1 e2
          subst e1 e2
          have hlt := bitsN_lt l st q
          have hlt2 : 2 ^ q ≤ 2 ^ 36 := Nat.pow_le_pow_right (by omega) (by omega)
          have hx : bitN l p = l[p / 8] / 2 ^ (7 - p % 8) % 2 := by unfold bitN; rw [List.getD_eq_getElem?_getD, List.getElem?_eq_getElem hpl]; rfl
          rw [hp] at hbit ⊢
          have hx8 := H8.out _ (List.getElem_mem hpl)
          generalize l[p / 8] = x at *
          generalize bitsN l st q = N at *
          have w1 : wrap64 ((p : Int) / 8) = ((p / 8 : Nat) : Int) := by have := Hl.out; unfold wrap64; omega
          have w2 : (p : Int) % 8 = ((p % 8 : Nat) : Int) := by omega
          have w3 : p % 8 < 8 := Nat.mod_lt _ (by omega)
          have w4 : ((p / 8 : Nat) : Int) < 34 := Int.ofNat_lt.2 hp34
          generalize p / 8 = d at *
          generalize p % 8 = m at *
          go_wp2_with fail
          go_round
          case rel =>
            refine ⟨q + 1, by omega, by go_num, ?_, ?_⟩
            · rw [hbit.out, hx]
              have hx2 : ((x : Int) / 2 ^ (7 - m)) = ((x / 2 ^ (7 - m) : Nat) : Int) := by rw [Int.natCast_ediv, Int.natCast_pow]; rfl
              rw [hx2, Int.tmod_eq_emod_of_nonneg (Int.natCast_nonneg _)]
              generalize x / 2 ^ (7 - m) = y
              have : wrap64 (2 * (N : Int) + (y : Int) % 2) = ((2 * N + y % 2 : Nat) : Int) := by unfold wrap64; omega
              rw [this]
            · have : wrap64 ((p : Int) + 1) = ((st + (q + 1) : Nat) : Int) := by have := Hks.out; unfold wrap64; omega
              first | rw [this] | (simp; omega)
          case measure => simp [intOf]; omega
        · obtain rfl : q = fb := by omega
          have Ht := HG.out.cellN ft ks5
          have Hfr := HG.out.fr ft
          have hlt := bitsN_lt l st q
          have hlt2 : 2 ^ q ≤ 2 ^ 36 := Nat.pow_le_pow_right (by omega) (by omega)
          generalize hN : bitsN l st q = N at *
          have HNN := Lib.hid hN; clear hN
          go_wp2_with fail
          have hft : (ft : Int) < 8 := by omega
          have hfm := wrap_add_small N fm (by omega)
          have hfm' : IntKind.i64.wrap ((N : Int) + fm) = (N : Int) + fm := by rw [IntKind.wrap_i64]; unfold wrap64 at hfm; exact hfm
          refine wp_region_headN (fun w' => w'.cell? ⟨F, k * 3, none⟩ = some (.int .i64 (ft : Nat)) ∧ w'.cell? ⟨F, k * 3 + 2, none⟩ = some (.int .i64 (fm : Nat))) 14 1 (by kernel_rfl) rfl (by kernel_rfl) ⟨C0, C2⟩ ?_
          simp only [List.take_succ_cons, List.take_zero]
          refine' wpHead_op _ (by rfl) ?hv1 ?hrest1
          case hv1 => (intro w' hS'; (try dsimp only at hS'); go_simp; try with_reducible rfl)
          try simp only [Act.put, List.setIfInBounds_toArray, List.set_cons_zero, List.set_cons_succ]
          refine' wpHead_op _ (by rfl) ?hv2 ?hrest2
          case hv2 => (intro w' hS'; (try dsimp only at hS'); go_simp; try with_reducible rfl)
          try simp only [Act.put, List.setIfInBounds_toArray, List.set_cons_zero, List.set_cons_succ]
          refine' wpHead_op _ (by rfl) ?hv3 ?hrest3
          case hv3 => (intro w' hS'; (try dsimp only at hS'); go_simp; try with_reducible rfl)
          try simp only [Act.put, List.setIfInBounds_toArray, List.set_cons_zero, List.set_cons_succ]
          refine' wpHead_op _ (by rfl) ?hv4 ?hrest4
          case hv4 => (intro w' hS'; (try dsimp only at hS'); go_simp; try with_reducible rfl)
          try simp only [Act.put, List.setIfInBounds_toArray, List.set_cons_zero, List.set_cons_succ]
          refine' wpHead_op _ (by rfl) ?hv5 ?hrest5
          case hv5 => (intro w' hS'; (try dsimp only at hS'); go_simp; try with_reducible rfl)
          try simp only [Act.put, List.setIfInBounds_toArray, List.set_cons_zero, List.set_cons_succ]
          refine' wpHead_op _ (by rfl) ?hv6 ?hrest6
          case hv6 => (intro w' hS'; (try dsimp only at hS'); go_simp; try with_reducible rfl)
          try simp only [Act.put, List.setIfInBounds_toArray, List.set_cons_zero, List.set_cons_succ]
          refine' wpHead_op _ (by rfl) ?hv7 ?hrest7
          case hv7 => (intro w' hS'; (try dsimp only at hS'); go_simp; try with_reducible rfl)
          try simp only [Act.put, List.setIfInBounds_toArray, List.set_cons_zero, List.set_cons_succ]
          refine' wpHead_op _ (by rfl) ?hv8 ?hrest8
          case hv8 => (intro w' hS'; (try dsimp only at hS'); go_simp; try with_reducible rfl)
          try simp only [Act.put, List.setIfInBounds_toArray, List.set_cons_zero, List.set_cons_succ]
          refine' wpHead_op _ (by rfl) ?hv9 ?hrest9
          case hv9 => (intro w' hS'; (try dsimp only at hS'); go_simp; try with_reducible rfl)
          try simp only [Act.put, List.setIfInBounds_toArray, List.set_cons_zero, List.set_cons_succ]
          refine' wpHead_op _ (by rfl) ?hv10 ?hrest10
          case hv10 => (intro w' hS'; (try dsimp only at hS'); go_simp; try with_reducible rfl)
          try simp only [Act.put, List.setIfInBounds_toArray, List.set_cons_zero, List.set_cons_succ]
          refine' wpHead_op _ (by rfl) ?hv11 ?hrest11
          case hv11 => (intro w' hS'; (try dsimp only at hS'); go_simp; try with_reducible rfl)
          try simp only [Act.put, List.setIfInBounds_toArray, List.set_cons_zero, List.set_cons_succ]
          refine' wpHead_op _ (by rfl) ?hv12 ?hrest12
          case hv12 => (intro w' hS'; (try dsimp only at hS'); go_simp; try with_reducible rfl)
          try simp only [Act.put, List.setIfInBounds_toArray, List.set_cons_zero, List.set_cons_succ]
          refine' wpHead_op _ (by rfl) ?hv13 ?hrest13
          case hv13 => (intro w' hS'; (try dsimp only at hS'); go_simp; try with_reducible rfl)
          try simp only [Act.put, List.setIfInBounds_toArray, List.set_cons_zero, List.set_cons_succ]
          refine' wpHead_op _ (by rfl) ?hv14 ?hrest14
          case hv14 => (intro w' hS'; (try dsimp only at hS'); go_simp; try with_reducible rfl)
          try simp only [Act.put, List.setIfInBounds_toArray, List.set_cons_zero, List.set_cons_succ]
          refine wpHead_nil ?_
          refine wpAnyH_next (i := 14) (by kernel_rfl) rfl (by rfl) (fun K hK => ?_)
          go_simp
          refine hK.out _ _ ⟨(World.cell?_setCell_far _ _ _ _ (Ne.symm hFG)).trans C0, (World.cell?_setCell_far _ _ _ _ (Ne.symm hFG)).trans C2⟩ ?_
          clear hK K
          try simp only [Act.put, List.setIfInBounds_toArray, List.set_cons_zero, List.set_cons_succ]
          refine wpAnyH_doneN (by kernel_rfl) ?_
          have HG2 : Hid (RfAt (wr.setCell ⟨G, ft, none⟩ (.int .i64 ((N : Int) + fm))) G (nK l (k + 1)) fun _ => 0) := by
            show RfAt _ _ _ _
            rw [HN.out, Int.natCast_add]
            exact HG.out.setN _ ft ks5
          have HR2 : Hid (RfAt (wr.setCell ⟨G, ft, none⟩ (.int .i64 ((N : Int) + fm))) R (fun _ => 0) fun _ => 0) := (heap_setCell_other wr _ R _ hRG).trans HR.out
          have HF2 : Hid ((wr.setCell ⟨G, ft, none⟩ (.int .i64 ((N : Int) + fm))).heap[F]? = some (.cells tabV 62 (0, 0))) := (heap_setCell_other wr _ F _ hFG).trans HF.out
          have HB2 : Hid (Below w.heap.size w (wr.setCell ⟨G, ft, none⟩ (.int .i64 ((N : Int) + fm)))) := HB3.out.setCell (by rw [HRe.out]; exact hGs) _
          clear HG HR HF HB3 C0 C1 C2 Ht Hfr
          go_wp2_with fail
          go_roundw
          case rel => exact ⟨k + 1, by omega, by go_num, by rw [← Hks.out]; simp, HB2.out.drew, HG2, HR2, HF2⟩
          case measure => simp [intOf]; omega
    · obtain rfl : k = 8 := by omega
      have HS0 : Hid ((fun _ => 0 : Nat → Int) = sK l 0) := rfl
      rw [HS0.out] at HG
      go_wp2_with fail
      go_loopw [9] (fun kv wr => ∃ k : Nat, k ≤ 16 ∧ kv = .int .i64 k ∧ Hid (Below w.heap.size w wr) ∧ Hid (RfAt wr G (nK l 8) (sK l k)) ∧ Hid (RfAt wr R (fun _ => 0) fun _ => 0)) (fun kv _ => 16 - (intOf kv).toNat)
      case atStart => exact ⟨0, by omega, rfl, HB3, HG, HR⟩
      case round =>
        clear HB3 HG HR HF
        obtain ⟨k, hk, rfl, HB3, HG, HR⟩ := hrel
        by_cases hkk : k < 16
        · have hpl : 18 + k < l.length := by have := Hl.out; omega
          obtain ⟨b', o', hbo, hcd⟩ := (Hr.out.below HB3.out) (18 + k) (.int .u8 (l[18 + k] : Nat)) (by simp [nv8, hpl])
          injection hbo with hbo
          injection hbo with e1 e2
          subst e1 e2
          have hx8 := H8.out _ (List.getElem_mem hpl)
          have Hst : Hid (sK l (k + 1) = upd (sK l k) k (l[18 + k] : Nat)) := by
            show _ = _
            rw [sK, rS, List.getD_eq_getElem?_getD, List.getElem?_eq_getElem hpl]; rfl
          generalize l[18 + k] = x at *
          have Hc := HG.out.cellS k hkk
          have Hf := HG.out.fr (8 + k)
          have HG2 : Hid (RfAt (wr.setCell ⟨G, 8 + k, none⟩ (.int .u8 x)) G (nK l 8) (sK l (k + 1))) := by
            show RfAt _ _ _ _
            rw [Hst.out]
            exact HG.out.setS _ k hkk
          have HR2 : Hid (RfAt (wr.setCell ⟨G, 8 + k, none⟩ (.int .u8 x)) R (fun _ => 0) fun _ => 0) := (heap_setCell_other wr _ R _ hRG).trans HR.out
          have HB2 : Hid (Below w.heap.size w (wr.setCell ⟨G, 8 + k, none⟩ (.int .u8 x))) := HB3.out.setCell (by rw [HRe.out]; exact hGs) _
          clear HG HR HB3
          go_wp2_with fail
          go_roundw
          case rel => exact ⟨k + 1, by omega, by go_num, HB2, HG2, HR2⟩
          case measure => simp [intOf]; omega
        · obtain rfl : k = 16 := by omega
          go_wp2_with (first | (refine wpList_load_row rfl 46 _ rfl G rfl 46 (ofV (nK l 8 0) (nK l 8 1) (nK l 8 2) (nK l 8 3) (nK l 8 4) (nK l 8 5) (nK l 8 6) (nK l 8 7) (sK l 16)) (0, 0) _ HG.out Try.underlying46 rfl (by kernel_rfl) ?_) | (refine wpList_store_row (c := ofV 0 0 0 0 0 0 0 0 fun _ => 0) (c' := ofV (nK l 8 0) (nK l 8 1) (nK l 8 2) (nK l 8 3) (nK l 8 4) (nK l 8 5) (nK l 8 6) (nK l 8 7) (sK l 16)) (t := 46) rfl 46 _ _ rfl R rfl rfl HR.out (by kernel_rfl) rfl (ofV_one _ _ _ _ _ _ _ _ _) ?_))
          refine bodyPost_ret (results_cell_row (cs := ofV (nK l 8 0) (nK l 8 1) (nK l 8 2) (nK l 8 3) (nK l 8 4) (nK l 8 5) (nK l 8 6) (nK l 8 7) (sK l 16)) (t := 46) (fr := (0, 0)) (g := R) Try.results15 _ _ _ rfl (setRow_heap _ R _ _ 46 (0, 0) HR.out) Try.underlying46 rfl (by kernel_rfl)) rfl ⟨rfl, Below.setRow HB3.out (by rw [HRe.out]; omega) _⟩
end Go.Proofs.Ytikgpohoggpldaa
