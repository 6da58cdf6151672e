/-
  (info.Info).Covers. (Printed by wip/gen/cov.py.)
-/
import Derived.Test.YtikgpohoggpldaaInfAw
import Derived.Test.YtikgpohoggpldaaInfLaw
namespace Go.Proofs.Ytikgpohoggpldaa
open Go.RowKit

def refI (n : Nat) (mn mx mf xf : Int) (k : Nat) (x y : Int) : Bool :=
  (decide (k + 1 < n) && decide (x < mn)) || decide (mx < x) || (decide (0 < mf) && decide (y < mf)) || (decide (0 < xf) && decide (xf < y))
def refB (n : Nat) (mn mx mf xf : Int) (l : List (Int × Int)) : Nat → Bool
  | 0 => false
  | k + 1 => refB n mn mx mf xf l k || refI n mn mx mf xf k (bk l k) (by' l k)
def covR (mn mx mf xf tt : Int) (l : List (Int × Int)) : Int :=
  if l.length = 0 then 20 else if refB l.length mn mx mf xf l l.length = true then 22 else if 0 < tt ∧ tt ≠ ttP (bk l) l.length then 22 else 0
theorem refB_of (n : Nat) (mn mx mf xf : Int) (l : List (Int × Int)) (k : Nat) (h : refI n mn mx mf xf k (bk l k) (by' l k) = true) : ∀ m, k < m → refB n mn mx mf xf l m = true
  | 0, h1 => by omega
  | m + 1, h1 => by
    show (refB n mn mx mf xf l m || refI n mn mx mf xf m (bk l m) (by' l m)) = true
    rcases Nat.lt_or_ge k m with h2 | h2
    · rw [refB_of n mn mx mf xf l k h m h2]; rfl
    · obtain rfl : k = m := by omega
      rw [h, Bool.or_true]
theorem covR_22 {mn mx mf xf tt : Int} {l : List (Int × Int)} {k : Nat} (hk : k < l.length) (h : refI l.length mn mx mf xf k (bk l k) (by' l k) = true) : covR mn mx mf xf tt l = 22 := by
  unfold covR
  rw [if_neg (by omega), if_pos (refB_of _ _ _ _ _ _ _ h _ hk)]


set_option maxHeartbeats 4000000 in
theorem covers_any (p0 p1 p2 mn mx mf xf tt : Int) (s : Nat → Int) (l : List (Int × Int)) (A : Option Addr) (c : Nat) (w : World) (hr : RdP w A l) (hf : l.length ≤ 101) (hok : ∀ x ∈ l, okP x) :
    Calls Try.prog 13 #[.agg (ofV p0 p1 p2 mn mx mf xf tt s), .slice A l.length c] w fun e w' => e = .returned (.int .i64 (covR mn mx mf xf tt l)) ∧ Below w.heap.size w w' := by
  have Hr := Lib.hid hr; clear hr
  have Hok := Lib.hid hok; clear hok
  obtain ⟨w0, hw0, hb0, hI⟩ : ∃ w0, w.alloc (.cells (ofV p0 p1 p2 mn mx mf xf tt s) 34) = w0 ∧ Below w.heap.size w w0 ∧ InfAt w0 w.heap.size p0 p1 p2 mn mx mf xf tt s := ⟨_, rfl, by repeat (first | exact Below.refl _ _ | assumption | refine below_drewN ?_ _ | refine Below.drew ?_ | refine Below.alloc ?_ (Nat.le_refl _) _ | refine bal ?_ _ | refine bnext ?_ (by assumption)), InfAt.new rfl⟩
  simp only [ofV] at hw0 ⊢
  have HI := Lib.hid hI; clear hI
  rcases Nat.eq_zero_or_pos l.length with hn | hn
  · have HC : Hid (covR mn mx mf xf tt l = 20) := if_pos hn
    rw [hn]
    go_enter Try.func13, Try.ntmps13
    go_wp2_with fail
    go_ret
    exact ⟨ret_int (by rw [HC.out]), hb0⟩
  · go_enter Try.func13, Try.ntmps13
    go_wp2_with fail
    try clear hw0
    have hB0 := HI.out.lt
    go_loopw [5, 14] (fun t i wr => ∃ k : Nat, k ≤ l.length ∧ i = .int .i64 k ∧ t = .int .i64 (ttP (bk l) k) ∧ Below w.heap.size w wr ∧ Hid (InfAt wr w.heap.size p0 p1 p2 mn mx mf xf tt s) ∧ Hid (refB l.length mn mx mf xf l k = false)) (fun _ i _ => l.length - (intOf i).toNat)
    case atStart => exact ⟨0, by omega, rfl, rfl, hb0, HI, rfl⟩
    case round =>
      clear hb0 HI hB0
      obtain ⟨k, hk, rfl, rfl, hb, HI, Href⟩ := hrel
      have hB := HI.out.lt
      have hBs : w.heap.size ≤ w.heap.size := Nat.le_refl _
      by_cases hkk : k < l.length
      · obtain ⟨b, o, rfl, hc1, hc2⟩ := (Hr.out.below hb) k _ (at_bk l k hkk)
        have Hd : Hid (ttP (bk l) (k + 1) = ttP (bk l) k + bk l k) := rfl
        have Hs : Hid (refB l.length mn mx mf xf l (k + 1) = refI l.length mn mx mf xf k (bk l k) (by' l k)) := by
          show (refB l.length mn mx mf xf l k || _) = _
          rw [Href.out, Bool.false_or]
        have Hy : Hid (refI l.length mn mx mf xf k (bk l k) (by' l k) = true → covR mn mx mf xf tt l = 22) := covR_22 hkk
        obtain ⟨tn, ht1, ht2⟩ := ttP_nat Hok.out k (by omega)
        obtain ⟨o1, o2, -, -⟩ := Hok.out (bk l k, by' l k) (List.mem_of_getElem? (at_bk l k hkk))
        rw [ht1] at Hd
        rw [ht1]
        clear ht1
        generalize bk l k = x at *
        generalize by' l k = y at *
        simp only [] at o1 o2
        have hj3 := HI.out.cell 3 (.int .i64 mn) rfl; have hj4 := HI.out.cell 4 (.int .i64 mx) rfl; have hj5 := HI.out.cell 5 (.int .i64 mf) rfl; have hj6 := HI.out.cell 6 (.int .i64 xf) rfl
        have hend : Below w.heap.size w wr := hb
        by_cases g1 : k + 1 < l.length
        · by_cases g2 : x < mn
          · go_wp2_with fail
            go_ret
            exact ⟨ret_int (by rw [Hy.out (by simp [refI]; omega)]), bal hb _⟩
          · by_cases g3 : mx < x
            · go_wp2_with fail
              go_ret
              exact ⟨ret_int (by rw [Hy.out (by simp [refI]; omega)]), bal hb _⟩
            · by_cases g4 : 0 < mf
              · by_cases g5 : y < mf
                · go_wp2_with fail
                  go_ret
                  exact ⟨ret_int (by rw [Hy.out (by simp [refI]; omega)]), bal hb _⟩
                · by_cases g6 : 0 < xf
                  · by_cases g7 : xf < y
                    · go_wp2_with fail
                      go_ret
                      exact ⟨ret_int (by rw [Hy.out (by simp [refI]; omega)]), bal hb _⟩
                    · go_wp2_with fail
                      go_roundw
                      case rel =>
                        refine ⟨_, _, _, _, _, _, ⟨k + 1, by omega, by go_num, ?_, bal hb _, (HI.out.alloc _), ?_⟩, rfl, rfl, rfl, rfl, rfl, rfl⟩
                        · rw [Hd.out]
                        · show _ = _
                          rw [Hs.out]; simp [refI]; omega
                      case measure => simp [intOf] <;> omega
                  · go_wp2_with fail
                    go_roundw
                    case rel =>
                      refine ⟨_, _, _, _, _, _, ⟨k + 1, by omega, by go_num, ?_, bal hb _, (HI.out.alloc _), ?_⟩, rfl, rfl, rfl, rfl, rfl, rfl⟩
                      · rw [Hd.out]
                      · show _ = _
                        rw [Hs.out]; simp [refI]; omega
                    case measure => simp [intOf] <;> omega
              · by_cases g6 : 0 < xf
                · by_cases g7 : xf < y
                  · go_wp2_with fail
                    go_ret
                    exact ⟨ret_int (by rw [Hy.out (by simp [refI]; omega)]), bal hb _⟩
                  · go_wp2_with fail
                    go_roundw
                    case rel =>
                      refine ⟨_, _, _, _, _, _, ⟨k + 1, by omega, by go_num, ?_, bal hb _, (HI.out.alloc _), ?_⟩, rfl, rfl, rfl, rfl, rfl, rfl⟩
                      · rw [Hd.out]
                      · show _ = _
                        rw [Hs.out]; simp [refI]; omega
                    case measure => simp [intOf] <;> omega
                · go_wp2_with fail
                  go_roundw
                  case rel =>
                    refine ⟨_, _, _, _, _, _, ⟨k + 1, by omega, by go_num, ?_, bal hb _, (HI.out.alloc _), ?_⟩, rfl, rfl, rfl, rfl, rfl, rfl⟩
                    · rw [Hd.out]
                    · show _ = _
                      rw [Hs.out]; simp [refI]; omega
                  case measure => simp [intOf] <;> omega
        · by_cases g3 : mx < x
          · go_wp2_with fail
            go_ret
            exact ⟨ret_int (by rw [Hy.out (by simp [refI]; omega)]), bal hb _⟩
          · by_cases g4 : 0 < mf
            · by_cases g5 : y < mf
              · go_wp2_with fail
                go_ret
                exact ⟨ret_int (by rw [Hy.out (by simp [refI]; omega)]), bal hb _⟩
              · by_cases g6 : 0 < xf
                · by_cases g7 : xf < y
                  · go_wp2_with fail
                    go_ret
                    exact ⟨ret_int (by rw [Hy.out (by simp [refI]; omega)]), bal hb _⟩
                  · go_wp2_with fail
                    go_roundw
                    case rel =>
                      refine ⟨_, _, _, _, _, _, ⟨k + 1, by omega, by go_num, ?_, bal hb _, (HI.out.alloc _), ?_⟩, rfl, rfl, rfl, rfl, rfl, rfl⟩
                      · rw [Hd.out]
                      · show _ = _
                        rw [Hs.out]; simp [refI]; omega
                    case measure => simp [intOf] <;> omega
                · go_wp2_with fail
                  go_roundw
                  case rel =>
                    refine ⟨_, _, _, _, _, _, ⟨k + 1, by omega, by go_num, ?_, bal hb _, (HI.out.alloc _), ?_⟩, rfl, rfl, rfl, rfl, rfl, rfl⟩
                    · rw [Hd.out]
                    · show _ = _
                      rw [Hs.out]; simp [refI]; omega
                  case measure => simp [intOf] <;> omega
            · by_cases g6 : 0 < xf
              · by_cases g7 : xf < y
                · go_wp2_with fail
                  go_ret
                  exact ⟨ret_int (by rw [Hy.out (by simp [refI]; omega)]), bal hb _⟩
                · go_wp2_with fail
                  go_roundw
                  case rel =>
                    refine ⟨_, _, _, _, _, _, ⟨k + 1, by omega, by go_num, ?_, bal hb _, (HI.out.alloc _), ?_⟩, rfl, rfl, rfl, rfl, rfl, rfl⟩
                    · rw [Hd.out]
                    · show _ = _
                      rw [Hs.out]; simp [refI]; omega
                  case measure => simp [intOf] <;> omega
              · go_wp2_with fail
                go_roundw
                case rel =>
                  refine ⟨_, _, _, _, _, _, ⟨k + 1, by omega, by go_num, ?_, bal hb _, (HI.out.alloc _), ?_⟩, rfl, rfl, rfl, rfl, rfl, rfl⟩
                  · rw [Hd.out]
                  · show _ = _
                    rw [Hs.out]; simp [refI]; omega
                case measure => simp [intOf] <;> omega
      · obtain rfl : k = l.length := by omega
        obtain ⟨T, hT⟩ : ∃ z, ttP (bk l) l.length = z := ⟨_, rfl⟩
        have hj7 := HI.out.cell 7 (.int .i64 tt) rfl
        have Hcv : Hid (covR mn mx mf xf tt l = if 0 < tt ∧ tt ≠ T then 22 else 0) := by
          show covR _ _ _ _ _ _ = _
          unfold covR
          rw [if_neg (by omega), if_neg (by rw [Href.out]; simp), hT]
        rw [hT]
        clear hT
        by_cases g1 : 0 < tt
        · by_cases g2 : tt = T
          · subst g2
            go_wp2_with fail
            go_ret
            exact ⟨ret_int (by rw [Hcv.out, if_neg (by simp)]), hb⟩
          · have g3 : (tt == T) = false := by rw [beq_eq_false_iff_ne]; exact g2
            go_wp2_with fail
            go_ret
            exact ⟨ret_int (by rw [Hcv.out, if_pos ⟨g1, g2⟩]), hb⟩
        · go_wp2_with fail
          go_ret
          exact ⟨ret_int (by rw [Hcv.out, if_neg (fun h => absurd h.1 (by omega))]), hb⟩
end Go.Proofs.Ytikgpohoggpldaa
