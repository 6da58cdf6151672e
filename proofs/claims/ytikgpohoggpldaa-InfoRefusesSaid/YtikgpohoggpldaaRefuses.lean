/-
  jetsamlaw11.InfoRefuses: its walk. (Printed by wip/gen/refuses.py.)
-/
import Derived.Test.YtikgpohoggpldaaMono
import Derived.Test.YtikgpohoggpldaaCov
namespace Go.Proofs.Ytikgpohoggpldaa
open Go.RowKit

def wantV (n : Nat) (mn mx mf xf : Int) (l : List (Int × Int)) (k : Nat) : Int := if refB n mn mx mf xf l k = true then 22 else 0
theorem wantV_yes {n : Nat} {mn mx mf xf : Int} {l : List (Int × Int)} {k : Nat} (h : refI n mn mx mf xf k (bk l k) (by' l k) = true) : wantV n mn mx mf xf l (k + 1) = 22 := by
  unfold wantV
  rw [if_pos (refB_of n mn mx mf xf l k h (k + 1) (by omega))]
theorem wantV_no {n : Nat} {mn mx mf xf : Int} {l : List (Int × Int)} {k : Nat} (h : refI n mn mx mf xf k (bk l k) (by' l k) = false) : wantV n mn mx mf xf l (k + 1) = wantV n mn mx mf xf l k := by
  unfold wantV
  rw [show refB n mn mx mf xf l (k + 1) = (refB n mn mx mf xf l k || refI n mn mx mf xf k (bk l k) (by' l k)) from rfl, h, Bool.or_false]

set_option maxRecDepth 100000 in
set_option maxHeartbeats 8000000 in
theorem infoRefuses_walk (p0 p1 p2 mn mx mf xf tt : Int) (s : Nat → Int) (l : List (Int × Int)) (A : Option Addr) (c : Nat) (w : World) (hr : RdP w A l) (hlen : l.length ≤ 9223372036854775807) :
    Calls Try.prog 5 #[.agg (ofV p0 p1 p2 mn mx mf xf tt s), .slice A l.length c] w fun e w' => e = .returned (.bool true) ∧ Below w.heap.size w w' := by
  have Hr := Lib.hid hr; clear hr
  obtain ⟨w0, hw0, hb0, hI⟩ : ∃ w0, w.alloc (.cells (ofV p0 p1 p2 mn mx mf xf tt s) 34) = w0 ∧ Below w.heap.size w w0 ∧ InfAt w0 w.heap.size p0 p1 p2 mn mx mf xf tt s := ⟨_, rfl, by repeat (first | exact Below.refl _ _ | assumption | refine below_drewN ?_ _ | refine Below.drew ?_ | refine Below.alloc ?_ (Nat.le_refl _) _ | refine bal ?_ _ | refine bnext ?_ (by assumption)), InfAt.new rfl⟩
  have hlt := hI.lt
  simp only [ofV] at hw0 ⊢
  have HI := Lib.hid hI; clear hI
  go_enter Try.func5, Try.ntmps5
  go_wp2_with fail
  try clear hw0
  have Hr0 : Hid (RdP w0 A l) := Hr.out.below hb0
  clear Hr
  refine (few_any l A c w0 Hr0.out hlen).mono ?_
  rintro e w4 ⟨rfl, hb4⟩
  have HI4 : Hid (InfAt w4 w.heap.size p0 p1 p2 mn mx mf xf tt s) := (hb4.block _ hlt).trans HI.out
  have Hr4 : Hid (RdP w4 A l) := Hr0.out.below hb4
  have hb04 : Below w.heap.size w w4 := bnext hb0 hb4
  have hlt4 : w.heap.size < w4.heap.size := Nat.lt_of_lt_of_le hlt hb4.size
  clear HI Hr0 hb0 hb4 hlt
  obtain ⟨fb, hfb⟩ : ∃ b, fewB l = b := ⟨_, rfl⟩
  rw [hfb]
  cases fb with
  | false =>
    go_wp2_with fail
    refine (awake_any _).mono ?_
    rintro e w5 ⟨rfl, hb5⟩
    go_wp2_with fail
    go_ret
    exact ⟨rfl, bnext hb04 hb5⟩
  | true =>
    obtain ⟨hf, hok⟩ := (fewB_iff l).1 hfb
    have Hok := Lib.hid hok
    clear hfb hok
    go_wp2_with fail
    go_loopw [5, 6, 7] (fun v t i wr => ∃ k : Nat, k ≤ l.length ∧ i = .int .i64 k ∧ t = .int .i64 (ttP (bk l) k) ∧ v = .int .i64 (wantV l.length mn mx mf xf l k) ∧ Below w4.heap.size w4 wr) (fun _ _ i _ => l.length - (intOf i).toNat)
    case atStart => exact ⟨0, by omega, rfl, rfl, rfl, Below.refl _ _⟩
    case round =>
      obtain ⟨k, hk, rfl, rfl, rfl, hb⟩ := hrel
      by_cases hkk : k < l.length
      · obtain ⟨b, o, rfl, hc1, hc2⟩ := (Hr4.out.below hb) k _ (at_bk l k hkk)
        have Hd : Hid (ttP (bk l) (k + 1) = ttP (bk l) k + bk l k) := rfl
        have Hy : Hid (refI l.length mn mx mf xf k (bk l k) (by' l k) = true → wantV l.length mn mx mf xf l (k + 1) = 22) := wantV_yes
        have Hn : Hid (refI l.length mn mx mf xf k (bk l k) (by' l k) = false → wantV l.length mn mx mf xf l (k + 1) = wantV l.length mn mx mf xf l k) := wantV_no
        obtain ⟨tn, ht1, ht2⟩ := ttP_nat Hok.out k (by omega)
        obtain ⟨o1, o2, -, -⟩ := Hok.out (bk l k, by' l k) (List.mem_of_getElem? (at_bk l k hkk))
        rw [ht1] at Hd
        rw [ht1]
        clear ht1
        generalize wantV l.length mn mx mf xf l k = v5 at *
        generalize bk l k = x at *
        generalize by' l k = y at *
        simp only [] at o1 o2
        have HI := hb.block _ hlt4 |>.trans HI4.out
        have hj3 := InfAt.cell HI 3 (.int .i64 mn) rfl; have hj4 := InfAt.cell HI 4 (.int .i64 mx) rfl; have hj5 := InfAt.cell HI 5 (.int .i64 mf) rfl; have hj6 := InfAt.cell HI 6 (.int .i64 xf) rfl
        clear HI
        have e1 : IntKind.i64.wrap ((k : Int) + 1) = (k : Int) + 1 := by rw [IntKind.wrap_i64]; omega
        have hi0 : (0 : Int) ≤ (k : Int) := by omega
        have hi1 : (k : Int) < l.length := by omega
        by_cases g3 : mx < x
        · have d3 : decide (mx < x) = true := by rw [decide_eq_true_iff]; omega
          go_wp2_with fail
          go_quiet (fail)
          go_wp2_with fail
          go_roundw
          case rel =>
            refine ⟨k + 1, by omega, by go_num, by rw [Hd.out], ?_, by repeat (first | exact Below.refl _ _ | assumption | refine below_drewN ?_ _ | refine Below.drew ?_ | refine Below.alloc ?_ (Nat.le_refl _) _ | refine bal ?_ _ | refine bnext ?_ (by assumption))⟩
            first | (rw [Hy.out (by simp [refI]; omega)]) | (rw [Hn.out (by simp [refI]; omega)])
          case measure => simp [intOf] <;> omega
        · have d3 : decide (mx < x) = false := by rw [decide_eq_false_iff_not]; omega
          by_cases g1 : k + 1 < l.length
          · have d1 : decide ((k : Int) + 1 < (l.length : Int)) = true := by rw [decide_eq_true_iff]; omega
            by_cases g2 : x < mn
            · have d2 : decide (x < mn) = true := by rw [decide_eq_true_iff]; omega
              go_wp2_with fail
              go_quiet (fail)
              go_wp2_with fail
              go_roundw
              case rel =>
                refine ⟨k + 1, by omega, by go_num, by rw [Hd.out], ?_, by repeat (first | exact Below.refl _ _ | assumption | refine below_drewN ?_ _ | refine Below.drew ?_ | refine Below.alloc ?_ (Nat.le_refl _) _ | refine bal ?_ _ | refine bnext ?_ (by assumption))⟩
                first | (rw [Hy.out (by simp [refI]; omega)]) | (rw [Hn.out (by simp [refI]; omega)])
              case measure => simp [intOf] <;> omega
            · have d2 : decide (x < mn) = false := by rw [decide_eq_false_iff_not]; omega
              by_cases g4 : 0 < mf
              · have d4 : decide (0 < mf) = true := by rw [decide_eq_true_iff]; omega
                by_cases g5 : y < mf
                · have d5 : decide (y < mf) = true := by rw [decide_eq_true_iff]; omega
                  go_wp2_with fail
                  go_quiet (fail)
                  go_wp2_with fail
                  go_roundw
                  case rel =>
                    refine ⟨k + 1, by omega, by go_num, by rw [Hd.out], ?_, by repeat (first | exact Below.refl _ _ | assumption | refine below_drewN ?_ _ | refine Below.drew ?_ | refine Below.alloc ?_ (Nat.le_refl _) _ | refine bal ?_ _ | refine bnext ?_ (by assumption))⟩
                    first | (rw [Hy.out (by simp [refI]; omega)]) | (rw [Hn.out (by simp [refI]; omega)])
                  case measure => simp [intOf] <;> omega
                · have d5 : decide (y < mf) = false := by rw [decide_eq_false_iff_not]; omega
                  by_cases g6 : 0 < xf
                  · have d6 : decide (0 < xf) = true := by rw [decide_eq_true_iff]; omega
                    by_cases g7 : xf < y
                    · have d7 : decide (xf < y) = true := by rw [decide_eq_true_iff]; omega
                      go_wp2_with fail
                      go_quiet (fail)
                      go_wp2_with fail
                      go_roundw
                      case rel =>
                        refine ⟨k + 1, by omega, by go_num, by rw [Hd.out], ?_, by repeat (first | exact Below.refl _ _ | assumption | refine below_drewN ?_ _ | refine Below.drew ?_ | refine Below.alloc ?_ (Nat.le_refl _) _ | refine bal ?_ _ | refine bnext ?_ (by assumption))⟩
                        first | (rw [Hy.out (by simp [refI]; omega)]) | (rw [Hn.out (by simp [refI]; omega)])
                      case measure => simp [intOf] <;> omega
                    · have d7 : decide (xf < y) = false := by rw [decide_eq_false_iff_not]; omega
                      go_wp2_with fail
                      go_quiet (fail)
                      go_wp2_with fail
                      go_roundw
                      case rel =>
                        refine ⟨k + 1, by omega, by go_num, by rw [Hd.out], ?_, by repeat (first | exact Below.refl _ _ | assumption | refine below_drewN ?_ _ | refine Below.drew ?_ | refine Below.alloc ?_ (Nat.le_refl _) _ | refine bal ?_ _ | refine bnext ?_ (by assumption))⟩
                        first | (rw [Hy.out (by simp [refI]; omega)]) | (rw [Hn.out (by simp [refI]; omega)])
                      case measure => simp [intOf] <;> omega
                  · have d6 : decide (0 < xf) = false := by rw [decide_eq_false_iff_not]; omega
                    go_wp2_with fail
                    go_quiet (fail)
                    go_wp2_with fail
                    go_roundw
                    case rel =>
                      refine ⟨k + 1, by omega, by go_num, by rw [Hd.out], ?_, by repeat (first | exact Below.refl _ _ | assumption | refine below_drewN ?_ _ | refine Below.drew ?_ | refine Below.alloc ?_ (Nat.le_refl _) _ | refine bal ?_ _ | refine bnext ?_ (by assumption))⟩
                      first | (rw [Hy.out (by simp [refI]; omega)]) | (rw [Hn.out (by simp [refI]; omega)])
                    case measure => simp [intOf] <;> omega
              · have d4 : decide (0 < mf) = false := by rw [decide_eq_false_iff_not]; omega
                by_cases g6 : 0 < xf
                · have d6 : decide (0 < xf) = true := by rw [decide_eq_true_iff]; omega
                  by_cases g7 : xf < y
                  · have d7 : decide (xf < y) = true := by rw [decide_eq_true_iff]; omega
                    go_wp2_with fail
                    go_quiet (fail)
                    go_wp2_with fail
                    go_roundw
                    case rel =>
                      refine ⟨k + 1, by omega, by go_num, by rw [Hd.out], ?_, by repeat (first | exact Below.refl _ _ | assumption | refine below_drewN ?_ _ | refine Below.drew ?_ | refine Below.alloc ?_ (Nat.le_refl _) _ | refine bal ?_ _ | refine bnext ?_ (by assumption))⟩
                      first | (rw [Hy.out (by simp [refI]; omega)]) | (rw [Hn.out (by simp [refI]; omega)])
                    case measure => simp [intOf] <;> omega
                  · have d7 : decide (xf < y) = false := by rw [decide_eq_false_iff_not]; omega
                    go_wp2_with fail
                    go_quiet (fail)
                    go_wp2_with fail
                    go_roundw
                    case rel =>
                      refine ⟨k + 1, by omega, by go_num, by rw [Hd.out], ?_, by repeat (first | exact Below.refl _ _ | assumption | refine below_drewN ?_ _ | refine Below.drew ?_ | refine Below.alloc ?_ (Nat.le_refl _) _ | refine bal ?_ _ | refine bnext ?_ (by assumption))⟩
                      first | (rw [Hy.out (by simp [refI]; omega)]) | (rw [Hn.out (by simp [refI]; omega)])
                    case measure => simp [intOf] <;> omega
                · have d6 : decide (0 < xf) = false := by rw [decide_eq_false_iff_not]; omega
                  go_wp2_with fail
                  go_quiet (fail)
                  go_wp2_with fail
                  go_roundw
                  case rel =>
                    refine ⟨k + 1, by omega, by go_num, by rw [Hd.out], ?_, by repeat (first | exact Below.refl _ _ | assumption | refine below_drewN ?_ _ | refine Below.drew ?_ | refine Below.alloc ?_ (Nat.le_refl _) _ | refine bal ?_ _ | refine bnext ?_ (by assumption))⟩
                    first | (rw [Hy.out (by simp [refI]; omega)]) | (rw [Hn.out (by simp [refI]; omega)])
                  case measure => simp [intOf] <;> omega
          · have d1 : decide ((k : Int) + 1 < (l.length : Int)) = false := by rw [decide_eq_false_iff_not]; omega
            by_cases g4 : 0 < mf
            · have d4 : decide (0 < mf) = true := by rw [decide_eq_true_iff]; omega
              by_cases g5 : y < mf
              · have d5 : decide (y < mf) = true := by rw [decide_eq_true_iff]; omega
                go_wp2_with fail
                go_quiet (fail)
                go_wp2_with fail
                go_roundw
                case rel =>
                  refine ⟨k + 1, by omega, by go_num, by rw [Hd.out], ?_, by repeat (first | exact Below.refl _ _ | assumption | refine below_drewN ?_ _ | refine Below.drew ?_ | refine Below.alloc ?_ (Nat.le_refl _) _ | refine bal ?_ _ | refine bnext ?_ (by assumption))⟩
                  first | (rw [Hy.out (by simp [refI]; omega)]) | (rw [Hn.out (by simp [refI]; omega)])
                case measure => simp [intOf] <;> omega
              · have d5 : decide (y < mf) = false := by rw [decide_eq_false_iff_not]; omega
                by_cases g6 : 0 < xf
                · have d6 : decide (0 < xf) = true := by rw [decide_eq_true_iff]; omega
                  by_cases g7 : xf < y
                  · have d7 : decide (xf < y) = true := by rw [decide_eq_true_iff]; omega
                    go_wp2_with fail
                    go_quiet (fail)
                    go_wp2_with fail
                    go_roundw
                    case rel =>
                      refine ⟨k + 1, by omega, by go_num, by rw [Hd.out], ?_, by repeat (first | exact Below.refl _ _ | assumption | refine below_drewN ?_ _ | refine Below.drew ?_ | refine Below.alloc ?_ (Nat.le_refl _) _ | refine bal ?_ _ | refine bnext ?_ (by assumption))⟩
                      first | (rw [Hy.out (by simp [refI]; omega)]) | (rw [Hn.out (by simp [refI]; omega)])
                    case measure => simp [intOf] <;> omega
                  · have d7 : decide (xf < y) = false := by rw [decide_eq_false_iff_not]; omega
                    go_wp2_with fail
                    go_quiet (fail)
                    go_wp2_with fail
                    go_roundw
                    case rel =>
                      refine ⟨k + 1, by omega, by go_num, by rw [Hd.out], ?_, by repeat (first | exact Below.refl _ _ | assumption | refine below_drewN ?_ _ | refine Below.drew ?_ | refine Below.alloc ?_ (Nat.le_refl _) _ | refine bal ?_ _ | refine bnext ?_ (by assumption))⟩
                      first | (rw [Hy.out (by simp [refI]; omega)]) | (rw [Hn.out (by simp [refI]; omega)])
                    case measure => simp [intOf] <;> omega
                · have d6 : decide (0 < xf) = false := by rw [decide_eq_false_iff_not]; omega
                  go_wp2_with fail
                  go_quiet (fail)
                  go_wp2_with fail
                  go_roundw
                  case rel =>
                    refine ⟨k + 1, by omega, by go_num, by rw [Hd.out], ?_, by repeat (first | exact Below.refl _ _ | assumption | refine below_drewN ?_ _ | refine Below.drew ?_ | refine Below.alloc ?_ (Nat.le_refl _) _ | refine bal ?_ _ | refine bnext ?_ (by assumption))⟩
                    first | (rw [Hy.out (by simp [refI]; omega)]) | (rw [Hn.out (by simp [refI]; omega)])
                  case measure => simp [intOf] <;> omega
            · have d4 : decide (0 < mf) = false := by rw [decide_eq_false_iff_not]; omega
              by_cases g6 : 0 < xf
              · have d6 : decide (0 < xf) = true := by rw [decide_eq_true_iff]; omega
                by_cases g7 : xf < y
                · have d7 : decide (xf < y) = true := by rw [decide_eq_true_iff]; omega
                  go_wp2_with fail
                  go_quiet (fail)
                  go_wp2_with fail
                  go_roundw
                  case rel =>
                    refine ⟨k + 1, by omega, by go_num, by rw [Hd.out], ?_, by repeat (first | exact Below.refl _ _ | assumption | refine below_drewN ?_ _ | refine Below.drew ?_ | refine Below.alloc ?_ (Nat.le_refl _) _ | refine bal ?_ _ | refine bnext ?_ (by assumption))⟩
                    first | (rw [Hy.out (by simp [refI]; omega)]) | (rw [Hn.out (by simp [refI]; omega)])
                  case measure => simp [intOf] <;> omega
                · have d7 : decide (xf < y) = false := by rw [decide_eq_false_iff_not]; omega
                  go_wp2_with fail
                  go_quiet (fail)
                  go_wp2_with fail
                  go_roundw
                  case rel =>
                    refine ⟨k + 1, by omega, by go_num, by rw [Hd.out], ?_, by repeat (first | exact Below.refl _ _ | assumption | refine below_drewN ?_ _ | refine Below.drew ?_ | refine Below.alloc ?_ (Nat.le_refl _) _ | refine bal ?_ _ | refine bnext ?_ (by assumption))⟩
                    first | (rw [Hy.out (by simp [refI]; omega)]) | (rw [Hn.out (by simp [refI]; omega)])
                  case measure => simp [intOf] <;> omega
              · have d6 : decide (0 < xf) = false := by rw [decide_eq_false_iff_not]; omega
                go_wp2_with fail
                go_quiet (fail)
                go_wp2_with fail
                go_roundw
                case rel =>
                  refine ⟨k + 1, by omega, by go_num, by rw [Hd.out], ?_, by repeat (first | exact Below.refl _ _ | assumption | refine below_drewN ?_ _ | refine Below.drew ?_ | refine Below.alloc ?_ (Nat.le_refl _) _ | refine bal ?_ _ | refine bnext ?_ (by assumption))⟩
                  first | (rw [Hy.out (by simp [refI]; omega)]) | (rw [Hn.out (by simp [refI]; omega)])
                case measure => simp [intOf] <;> omega
      · obtain rfl : k = l.length := by omega
        obtain ⟨T, hT⟩ : ∃ z, ttP (bk l) l.length = z := ⟨_, rfl⟩
        obtain ⟨v5, hv5⟩ : ∃ z, wantV l.length mn mx mf xf l l.length = z := ⟨_, rfl⟩
        have Q1 : Hid (∀ W, Below wr.heap.size wr W → InfAt W w.heap.size p0 p1 p2 mn mx mf xf tt s) := fun W hW => (hW.block _ (Nat.lt_of_lt_of_le hlt4 hb.size)).trans ((hb.block _ hlt4).trans HI4.out)
        have Q3 : Hid (∀ W, Below wr.heap.size wr W → RdP W A l) := fun W hW => (Hr4.out.below hb).below hW
        have hb8 : Below w.heap.size w wr := bnext hb04 hb
        have hj7 := (Q1.out wr (Below.refl _ _)).cell 7 (.int .i64 tt) rfl
        have Hcv : Hid (covR mn mx mf xf tt l = if l.length = 0 then 20 else if 0 < tt ∧ tt ≠ T then 22 else v5) := by
          show covR _ _ _ _ _ _ = _
          rw [← hv5, ← hT]
          unfold covR wantV
          split
          · rfl
          · split
            · split <;> rfl
            · rfl
        rw [hT, hv5]
        have HT := Lib.hid hT
        clear hT hv5 Hr4 HI4 hb04 hb hkk hk hlt4
        have g2s : T = tt ∨ (T == tt) = false := by
          by_cases g : T = tt
          · exact .inl g
          · exact .inr (by rw [beq_eq_false_iff_ne]; exact g)
        go_upto_region 11 with fail
        go_cut [88] (fun v wx => v = .bool (decide (0 < tt) && (T != tt)) ∧ wr = wx)
        case first =>
          by_cases g1 : 0 < tt
          · rcases g2s with g2 | g2
            · subst g2
              go_wp2_with fail
              go_meet
              exact ⟨by simp, rfl⟩
            · go_wp2_with fail
              go_meet
              exact ⟨by simp [g1, bne, g2], rfl⟩
          · go_wp2_with fail
            go_meet
            exact ⟨by rw [decide_eq_false (by omega)]; rfl, rfl⟩
        case rest =>
          obtain ⟨rfl, rfl⟩ := hcut
          obtain ⟨bb, hbb⟩ : ∃ b, (decide (0 < tt) && (T != tt)) = b := ⟨_, rfl⟩
          rw [hbb]
          have HB := Lib.hid hbb
          clear hbb g2s
          go_upto_if 88 with fail
          go_cut [5] (fun v wx => v = .int .i64 (if bb = true then 22 else v5) ∧ wr = wx)
          case first =>
            cases bb with
            | true =>
              go_wp2_with fail
              go_meet
              exact ⟨rfl, rfl⟩
            | false =>
              go_wp2_with fail
              go_meet
              exact ⟨rfl, rfl⟩
          case rest =>
            obtain ⟨rfl, rfl⟩ := hcut
            obtain ⟨v6, hv6⟩ : ∃ z, (if bb = true then 22 else v5) = z := ⟨_, rfl⟩
            rw [hv6]
            have HV6 := Lib.hid hv6
            clear hv6
            go_upto_if 91 with fail
            go_cut [5] (fun v wx => v = .int .i64 (covR mn mx mf xf tt l) ∧ wr = wx)
            case first =>
              by_cases hz : l.length = 0
              · have h0 : ((l.length : Int) == 0) = true := by rw [beq_iff_eq]; omega
                have HC : Hid (covR mn mx mf xf tt l = 20) := by
                  show _ = _
                  rw [Hcv.out, if_pos hz]
                clear hz
                go_wp2_with fail
                go_meet
                exact ⟨by rw [HC.out], rfl⟩
              · have h0 : ((l.length : Int) == 0) = false := by rw [beq_eq_false_iff_ne]; omega
                have HC : Hid (covR mn mx mf xf tt l = v6) := by
                  show _ = _
                  rw [Hcv.out, if_neg hz, ← HV6.out, ← HB.out]
                  simp only [Bool.and_eq_true, decide_eq_true_eq, bne_iff_ne, ne_eq, eq_comm (a := T)]
                clear hz
                go_wp2_with fail
                go_meet
                exact ⟨by rw [HC.out], rfl⟩
            case rest =>
              obtain ⟨rfl, rfl⟩ := hcut
              clear Hcv HT HB HV6
              obtain ⟨cv, hcv⟩ : ∃ z, covR mn mx mf xf tt l = z := ⟨_, rfl⟩
              rw [hcv]
              have HC := Lib.hid hcv
              clear hcv
              have hj5 := (Q1.out wr (Below.refl _ _)).cell 5 (.int .i64 mf) rfl
              have hj6 := (Q1.out wr (Below.refl _ _)).cell 6 (.int .i64 xf) rfl
              by_cases n1 : mf < 0
              · go_wp2_with fail
                refine (awake_any _).mono ?_
                rintro e w2 ⟨rfl, hb2⟩
                go_wp2_with fail
                go_ret
                exact ⟨rfl, bnext hb8 hb2⟩
              by_cases n2 : xf < 0
              · go_wp2_with fail
                refine (awake_any _).mono ?_
                rintro e w2 ⟨rfl, hb2⟩
                go_wp2_with fail
                go_ret
                exact ⟨rfl, bnext hb8 hb2⟩
              by_cases n3 : tt < 0
              · go_wp2_with fail
                refine (awake_any _).mono ?_
                rintro e w2 ⟨rfl, hb2⟩
                go_wp2_with fail
                go_ret
                exact ⟨rfl, bnext hb8 hb2⟩
              have hI := (Q1.out wr (Below.refl _ _))
              unfold InfAt at hI
              have HI := Lib.hid hI
              clear hI
              go_wp2_with (refine wpList_load_row_g (by rfl) 34 _ rfl w.heap.size rfl 34 (ofV p0 p1 p2 mn mx mf xf tt s) (0, 0) _ HI.out Try.underlying34 rfl (by kernel_rfl) ?_)
              refine (covers_any p0 p1 p2 mn mx mf xf tt s l A c _ (Q3.out _ (Below.refl _ _)) hf Hok.out).mono ?_
              rintro e w1 ⟨rfl, hb1⟩
              rw [HC.out]
              have hb9 : Below w.heap.size w w1 := bnext hb8 hb1
              go_wp2_with fail
              refine (awake_any _).mono ?_
              rintro e w2 ⟨rfl, hb2⟩
              go_wp2_with fail
              go_ret
              exact ⟨rfl, bnext hb9 hb2⟩
end Go.Proofs.Ytikgpohoggpldaa
