/-
  jetsamlaw18.BurstOnly: its walk, the loop.
-/
import Derived.Test.YticfmhmkgcdhgaaBo35
import Derived.Deep.DeepCutAuto
set_option linter.unusedSimpArgs false
set_option linter.unusedVariables false
namespace Go.Proofs.Yticfmhmkgcdhgaa
open Go.RowKit

set_option maxRecDepth 1000000 in
set_option maxHeartbeats 4000000 in
theorem boLoop (f : Nat) (hf : okFs f) (bs : List UInt8) (A : Option Addr) (c : Nat) (most : Int) (hl : bs.length ≤ 60) (w W1 W : World) (Bw : Nat) (A8 : Option Addr) (c8 : Nat) (HB : Hid (Below w.heap.size w W)) (HR : Hid (Rd w A (bv bs))) (Hn : Hid (A = none → bs.length = 0 ∧ c = 0))
    (HRB : Hid (RdB W1 A8 (allB bs most))) (HB1 : Hid (Below W1.heap.size W1 W)) (hw1 : w.heap.size ≤ W1.heap.size) (hBw : W1.heap.size ≤ Bw) (HW : Hid (Blk W Bw 28 zB))
    (u2 u3 u4 u5 u6 u9 u13 u14 u15 u16 u17 u18 u19 u20 u21 u22 u23 u24 u25 u26 u27 u28 u29 u30 u31 u32 u33 u34 u35 u36 u37 u38 u39 u40 u41 u42 u43 u44 u45 u46 u47 u48 u49 u50 u51 u52 u53 u54 u55 u56 u57 u58 u59 u60 u61 u62 u63 u64 u65 u66 u67 u68 u69 u70 u71 u72 u73 u74 u75 u76 u77 u78 u79 u80 u81 u82 u83 u84 u85 u86 u87 u88 u89 u90 u91 u92 u93 u94 u95 u96 u97 u98 u99 u100 u101 u102 u103 u104 u105 u106 u107 u108 u109 u110 u111 u112 u113 u114 u115 u116 u117 u118 u119 u120 u121 u122 u123 u124 u125 u126 u127 : Value) :
    Code.wp Try.prog (cdrC 10 boBody) (bodyPost Try.prog Try.f8 fun e w' => e = .returned (.bool true) ∧ Below w.heap.size w w') ⟨#[.slice A bs.length c, .int .i64 most, u2, u3, u4, u5, u6, .func (.func f) #[] #[], .slice A8 (allB bs most).length c8, u9, .int .i64 0, .pointer (some ⟨Bw, 0, none⟩), .slice none 0 0, u13, u14, u15, u16, u17, u18, u19, u20, u21, u22, u23, u24, u25, u26, u27, u28, u29, u30, u31, u32, u33, u34, u35, u36, u37, u38, u39, u40, u41, u42, u43, u44, u45, u46, u47, u48, u49, u50, u51, u52, u53, u54, u55, u56, u57, u58, u59, u60, u61, u62, u63, u64, u65, u66, u67, u68, u69, u70, u71, u72, u73, u74, u75, u76, u77, u78, u79, u80, u81, u82, u83, u84, u85, u86, u87, u88, u89, u90, u91, u92, u93, u94, u95, u96, u97, u98, u99, u100, u101, u102, u103, u104, u105, u106, u107, u108, u109, u110, u111, u112, u113, u114, u115, u116, u117, u118, u119, u120, u121, u122, u123, u124, u125, u126, u127], []⟩ W := by
  conv => arg 2; whnf
  have hyl : (allB bs most).length = (allH (8 * bs.length) (crc16 0 bs) most).length := by unfold allB; rw [List.length_map]
  have hy8 := allB_length bs most
  rw [hyl] at hy8 ⊢
  clear hyl
  have HG : Hid (∀ (j : Nat) (hj : j < (allH (8 * bs.length) (crc16 0 bs) most).length), (allB bs most)[j]? = some ((allH (8 * bs.length) (crc16 0 bs) most)[j]'hj).1) := fun j hj => by unfold allB; rw [List.getElem?_map, List.getElem?_eq_getElem hj]; rfl
  have HT := Lib.hid (fun (vo : Value) (W' : World) (h1 : Below w.heap.size w W') h2 h3 => boTail f hf bs A c most hl w W' Bw vo h1 HR Hn h2 h3)
  have hent : ∀ args w, (callFunc f args).run Try.prog w = .ok (.enter f args) w := ok_enters f hf
  generalize (allH (8 * bs.length) (crc16 0 bs) most) = AL at *
  generalize allB bs most = ys at *
  have hAl : AL.length ≤ 480 := by omega
  have HHl : Hid (∀ j, (Hs f bs (AL.take j)).length ≤ 480) := fun j => Nat.le_trans (Nat.le_trans (by unfold Hs; exact List.length_filter_le _ _) (by rw [List.length_take]; exact Nat.min_le_right _ _)) hAl
  go_step
  go_step
  dsimp only
  go_cut [10, 12] (fun n v wx => n = .int .i64 ((Hs f bs AL).length : Nat) ∧ wantO bs (Hs f bs AL) v wx ∧ Blk wx Bw 28 (wantC (Hs f bs AL)) ∧ Below w.heap.size w wx)
  case rest =>
    obtain ⟨rfl, h1, h2, h3⟩ := hcut
    have hle := HHl.out AL.length
    rw [List.take_of_length_le (Nat.le_refl _)] at hle
    go_step
    exact HT.out _ _ h3 h2 h1 (by omega) _ _ _ _ _ _ _ _ _ _ _ _ _ _ _ _ _ _ _ _ _ _ _ _ _ _ _ _ _ _ _ _ _ _ _ _ _ _ _ _ _ _ _ _ _ _ _ _ _ _ _ _ _ _ _ _ _ _ _ _ _ _ _ _ _ _ _ _ _ _ _ _ _ _ _ _ _ _ _ _ _ _ _ _ _ _ _ _ _ _ _ _ _ _ _ _ _ _ _ _ _ _ _ _ _ _ _ _ _ _ _ _ _ _ _ _ _ _ _ _ _ _ 
  case first =>
    go_wp2_with fail
    go_loopw [10, 12, 13] (fun n v i wr => ∃ j : Nat, j ≤ AL.length ∧ i = .int .i64 j ∧ n = .int .i64 ((Hs f bs (AL.take j)).length : Nat) ∧ Hid (wantO bs (Hs f bs (AL.take j)) v wr) ∧ Hid (Blk wr Bw 28 (wantC (Hs f bs (AL.take j)))) ∧ Hid (Below w.heap.size w wr) ∧ Hid (Below W1.heap.size W1 wr)) (fun _ _ i _ => AL.length - (intOf i).toNat)
    case atStart => exact ⟨0, by omega, rfl, rfl, rfl, HW, HB, HB1⟩
    case round =>
      obtain ⟨j, hj, rfl, rfl, HO, HWj, HBj, HB1j⟩ := hrel
      clear HW HB HB1 HT
      by_cases hjj : j < AL.length
      · obtain ⟨x, hx⟩ : ∃ x, AL[j] = x := ⟨_, rfl⟩
        have hjy : (j : Int) < AL.length := by omega
        have hg := HG.out j hjj
        rw [hx] at hg
        obtain ⟨b2, o2, rfl, hy0, hy1, hy2⟩ := (HRB.out.below HB1j.out) j x.1 hg
        have Htk : Hid (AL.take (j + 1) = AL.take j ++ [x]) := by show _ = _; rw [List.take_succ_eq_append_getElem hjj, hx]
        have hHj := HHl.out j
        have HAp := Lib.hid (Apply_one bs A c x _ (HR.out.below HBj.out) (by omega) Hn.out rfl)
        have hwB := HWj.out.lt
        have Hxj := Lib.hid hx
        clear hx hg
        generalize hH : Hs f bs (AL.take j) = H at *
        have HHe := Lib.hid hH
        clear hH
        go_wp2_with fail
        refine HAp.out.mono ?_
        rintro e w2 ⟨hb2, g, cap, cs, rfl, hg2, hcap, hgb, hgr⟩
        have HOk := ok_any f hf (outB bs x.1) (some ⟨g, 0, none⟩) cap w2 hgr (by rw [outB_length]; omega)
        rw [outB_length] at HOk
        obtain ⟨bq, hbq⟩ : ∃ b, okV f (outB bs x.1) = b := ⟨_, rfl⟩
        rw [hbq] at HOk
        have HOk2 := Lib.hid HOk
        have Hbq := Lib.hid hbq
        have Hb2 : Hid (Below wr.heap.size wr w2) := hb2
        have Hgr := Lib.hid hgr
        have Hgb := Lib.hid hgb
        clear HOk hbq hgr hgb HAp hb2 hy0 hy1 hy2
        go_wp2_with fail
        refine HOk2.out.mono ?_
        rintro e w3 ⟨rfl, hb3⟩
        have Hb23 := Lib.hid (bnext Hb2.out hb3)
        have HBn := Lib.hid (bnext HBj.out Hb23.out)
        have HB1n := Lib.hid (bnext HB1j.out Hb23.out)
        have HWn : Hid (Blk w3 Bw 28 (wantC H)) := hrow_below HWj.out Hb23.out
        have HOn := Lib.hid (HO.out.below Hb23.out)
        have Hgr3 := Lib.hid (Hgr.out.below hb3)
        have Hgb3 : Hid (w3.heap[g]? = some (.cells cs 5 (0, 0))) := hrow_below Hgb.out hb3
        clear HOk2 hb3 Hb2 HBj HB1j HWj HO Hgr Hgb
        cases bq
        · have hHn : Hs f bs (AL.take (j + 1)) = H := by rw [Htk.out, Hs_snoc_no _ _ _ _ Hbq.out, HHe.out]
          have HHn := Lib.hid hHn
          clear hHn
          go_wp2_with fail
          go_roundw
          case rel => exact ⟨j + 1, by omega, by go_num, by rw [HHn.out], by rw [HHn.out]; exact HOn, by rw [HHn.out]; exact HWn, HBn, HB1n⟩
          case measure => simp [intOf] <;> omega
        · have hHn : Hs f bs (AL.take (j + 1)) = H ++ [x] := by rw [Htk.out, Hs_snoc_yes _ _ _ _ Hbq.out, HHe.out]
          have HHn := Lib.hid hHn
          obtain ⟨b3, o3, e3, hy0, hy1, hy2⟩ := (HRB.out.below HB1n.out) j x.1 (by have h := HG.out j hjj; rw [h, Hxj.out])
          injection e3 with e3
          injection e3 with e3 e4
          subst e3 e4
          obtain ⟨qa, qn, qp, hq⟩ := wantC_form H
          have hW3 := HWn.out
          rw [hq] at hW3
          have g0 := cell_of_row w3 Bw 0 _ _ _ hW3
          have g1 := cell_of_row w3 Bw 1 _ _ _ hW3
          have g2 := cell_of_row w3 Bw 2 _ _ _ hW3
          have z0 := frozen_of_row w3 Bw 0 _ _ hW3
          have z1 := frozen_of_row w3 Bw 1 _ _ hW3
          have z2 := frozen_of_row w3 Bw 2 _ _ hW3
          simp only [List.getElem?_toArray, List.getElem?_cons_zero, List.getElem?_cons_succ] at g0 g1 g2
          have HWs : Hid (Blk (((w3.setCell ⟨Bw, 0, none⟩ (.int .i64 (x.1.a : Int))).setCell ⟨Bw, 1, none⟩ (.int .i64 (x.1.n : Int))).setCell ⟨Bw, 2, none⟩ (.int .i64 (x.1.p : Int))) Bw 28 (cellX x.1).toArray) := Blk.set3 hW3 _ _ _
          have HBs : Hid (Below w.heap.size w (((w3.setCell ⟨Bw, 0, none⟩ (.int .i64 (x.1.a : Int))).setCell ⟨Bw, 1, none⟩ (.int .i64 (x.1.n : Int))).setCell ⟨Bw, 2, none⟩ (.int .i64 (x.1.p : Int)))) := below_set (below_set (below_set HBn.out (by omega) _) (by omega) _) (by omega) _
          have HB1s : Hid (Below W1.heap.size W1 (((w3.setCell ⟨Bw, 0, none⟩ (.int .i64 (x.1.a : Int))).setCell ⟨Bw, 1, none⟩ (.int .i64 (x.1.n : Int))).setCell ⟨Bw, 2, none⟩ (.int .i64 (x.1.p : Int)))) := below_set (below_set (below_set HB1n.out (by omega) _) (by omega) _) (by omega) _
          have hgB : g ≠ Bw := by omega
          have HRs : Hid (Rd (((w3.setCell ⟨Bw, 0, none⟩ (.int .i64 (x.1.a : Int))).setCell ⟨Bw, 1, none⟩ (.int .i64 (x.1.n : Int))).setCell ⟨Bw, 2, none⟩ (.int .i64 (x.1.p : Int))) (some ⟨g, 0, none⟩) (bv (outB bs x.1))) := rd_grown (B := 0) (row := none) Hgb3.out Hgr3.out (((Blk.oth (k := g) Hgb3.out hgB _).oth hgB _).oth hgB _)
          clear hHn hq hW3 HWn HBn HB1n HOn Hgr3 Hgb3 Hb23
          go_wp2_with fail
          generalize (((w3.setCell ⟨Bw, 0, none⟩ (.int .i64 (x.1.a : Int))).setCell ⟨Bw, 1, none⟩ (.int .i64 (x.1.n : Int))).setCell ⟨Bw, 2, none⟩ (.int .i64 (x.1.p : Int))) = w4 at *
          go_roundw
          case rel =>
            refine ⟨j + 1, by omega, by go_num, by rw [HHn.out, List.length_append]; rfl, ?_, ?_, HBs, HB1s⟩
            · rw [HHn.out]
              show wantO bs (H ++ [x]) _ _
              unfold wantO
              rw [List.getLast?_append]
              exact ⟨_, _, rfl, hcap, HRs.out⟩
            · rw [HHn.out]
              show Blk _ _ _ (wantC (H ++ [x]))
              unfold wantC
              rw [List.getLast?_append]
              exact HWs.out
          case measure => simp [intOf] <;> omega
      · obtain rfl : j = AL.length := by omega
        rw [List.take_of_length_le (Nat.le_refl _)] at HO HWj ⊢
        have hyj : ¬ (AL.length : Int) < AL.length := by omega
        go_wp2_with fail
        go_meet
        exact ⟨rfl, HO.out, HWj.out, HBj.out⟩
end Go.Proofs.Yticfmhmkgcdhgaa
