/-
  jetsamlaw11.InfoBack: its walk.
-/
import Derived.Test.YtikgpohoggpldaaBackLaw
namespace Go.Proofs.Ytikgpohoggpldaa
open Go.RowKit

theorem rS_bd (l : List Nat) (h : ∀ x ∈ l, x < 256) (i : Nat) : 0 ≤ rS l i ∧ rS l i < 256 := by
  unfold rS
  rw [List.getD_eq_getElem?_getD]
  cases e : l[18 + i]? with
  | none => simp
  | some x =>
    have := h x (List.mem_of_getElem? e)
    simp; omega
theorem neq_info (w : World) (p0 p1 p2 a b c d e : Int) (s : Nat → Int) : (binOp .neq 34 (.agg (ofV p0 p1 p2 a b c d e s)) (.agg (ofV p0 p1 p2 a b c d e s))).run Try.prog w = .ok (.bool false) w := by
  rw [run_neq_struct, eq_info]; rfl

set_option maxHeartbeats 1000000 in
theorem back_out (V : Array Value) (l : List Nat) (A : Option Addr) (c : Nat) (w : World) (h : 100 < l.length) :
    Calls Try.prog 8 #[.agg V, .slice A l.length c] w fun e w' => e = .returned (.bool true) ∧ Below w.heap.size w w' := by
  generalize l.length = n at *
  go_enter Try.func8, Try.ntmps8
  go_wp2_with fail
  refine (awake_any _).mono ?_
  rintro e w1 ⟨rfl, hb1⟩
  go_wp2_with fail
  go_ret
  exact ⟨rfl, by repeat (first | exact Below.refl _ _ | assumption | refine below_drewN ?_ _ | refine Below.drew ?_ | refine Below.alloc ?_ (Nat.le_refl _) _ | refine bal ?_ _ | refine bnext ?_ (by assumption))⟩

set_option maxHeartbeats 2000000 in
theorem back_no (n s : Nat → Int) (hm : mayN n = false) (l : List Nat) (hl8 : ∀ x ∈ l, x < 256) (A : Option Addr) (c : Nat) (w : World) (hr : Rd w A (nv8 l)) (hc : l.length ≤ c) (h : l.length ≤ 100) :
    Calls Try.prog 8 #[.agg (ofV (n 0) (n 1) (n 2) (n 3) (n 4) (n 5) (n 6) (n 7) s), .slice A l.length c] w fun e w' => e = .returned (.bool true) ∧ Below w.heap.size w w' := by
  have HWn := Lib.hid (Write_no (n 0) (n 1) (n 2) (n 3) (n 4) (n 5) (n 6) (n 7) s hm)
  have HI : Hid ((w.alloc (.cells (ofV (n 0) (n 1) (n 2) (n 3) (n 4) (n 5) (n 6) (n 7) s) 34)).heap[w.heap.size]? = some (.cells (ofV (n 0) (n 1) (n 2) (n 3) (n 4) (n 5) (n 6) (n 7) s) 34 (0, 0))) := heap_alloc_last w _
  have Hszo : Hid ((ofV (n 0) (n 1) (n 2) (n 3) (n 4) (n 5) (n 6) (n 7) s).size = 24) := rfl
  have Hr := Lib.hid hr
  have H8 := Lib.hid hl8
  clear hm hr hl8
  generalize ofV (n 0) (n 1) (n 2) (n 3) (n 4) (n 5) (n 6) (n 7) s = V0 at *
  go_enter Try.func8, Try.ntmps8
  go_wp2_with (refine wpList_load_row_g (by rfl) 34 _ rfl w.heap.size rfl 34 V0 (0, 0) _ HI.out Try.underlying34 rfl (by rw [Hszo.out]; kernel_rfl) ?_)
  refine (HWn.out _).mono ?_
  rintro e w1 ⟨rfl, hb1⟩
  have hb2 : Below w.heap.size w w1 := by repeat (first | exact Below.refl _ _ | assumption | refine below_drewN ?_ _ | refine Below.drew ?_ | refine Below.alloc ?_ (Nat.le_refl _) _ | refine bal ?_ _ | refine bnext ?_ (by assumption))
  clear hb1 HI HWn Hszo
  go_wp2_with fail
  refine ((read_any l H8.out A c _ (Hr.out.below (hb2)) hc).mono ?_)
  rintro e w21 ⟨V, k, rfl, hok, hb21⟩
  have hb22 := bnext (hb2) hb21
  rcases hok with ⟨rfl, hl34, hmay, hV⟩ | ⟨hk0, hV⟩
  · have HV := Lib.hid hV
    clear hV hb21
    have Hl34 := Lib.hid hl34
    have H1 : Hid (V.all (·.oneCell') = true) := by show _ = _; rw [HV.out]; exact ofV_one _ _ _ _ _ _ _ _ _
    have Hsz : Hid (V.size = 24) := by show _ = _; rw [HV.out]; rfl
    have hm2 : mayN (nOf (rP0 l) (rP1 l) (rP2 l) (rMn l) (rMx l) (rMf l) (rXf l) (rTt l)) = true := hmay
    have HW : Hid (∀ W, Calls Try.prog 18 #[.agg V] W fun e w' => ∃ v R, e = .returned (.tuple #[v, .int .i64 0]) ∧ R % 18446744073709551616 = restN (rP0 l) (rP1 l) (rP2 l) (rTt l) % 18446744073709551616 ∧ Hid (w'.ownsRow W.heap.size 5 1 v 34 (nv8 (wrB (rMn l) (rMx l) (rMf l) (rXf l) R (rS l)))) ∧ Below W.heap.size W w') := by
      intro W
      rw [HV.out]
      exact Write_ok (rP0 l) (rP1 l) (rP2 l) (rMn l) (rMx l) (rMf l) (rXf l) (rTt l) (rS l) hmay (fun i hi => rS_bd l H8.out i) W
    clear hm2 hmay HV hl34
    go_upto_region 9 with (first | (refine wpList_store_new rfl 34 _ _ rfl _ rfl rfl rfl (by rw [Hsz.out]; kernel_rfl) (by rw [Hsz.out]; rfl) H1.out ?_; intro w23 hw23))
    have HI23 : Hid (w23.heap[w21.heap.size]? = some (.cells V 34 (0, 0))) := by show _ = _; rw [← hw23]; exact heap_alloc_last w21 _
    have hb23 : Below w.heap.size w w23 := by rw [← hw23]; exact bal hb22 _
    clear hw23 hb22
    generalize w21.heap.size = g2 at *
    go_wp2_with (refine wpList_load_row_g (by rfl) 34 _ rfl g2 rfl 34 V (0, 0) _ HI23.out Try.underlying34 rfl (by rw [Hsz.out]; kernel_rfl) ?_)
    refine (HW.out _).mono ?_
    rintro e w24 ⟨v, R, rfl, hR, Hown, hb24⟩
    have hwr := write_read l H8.out Hl34.out R hR
    rw [hwr] at Hown
    obtain ⟨A9, c9, rfl, hc9, hrd9, -⟩ := own_nilcap Hown.out
    have hb25 := bnext hb23 hb24
    have HB : Hid (∀ W, Below w24.heap.size w24 W → Calls Try.prog 20 #[.slice A9 34 c9, .slice A l.length c] W fun e w' => e = .returned (.bool true) ∧ Below W.heap.size W w') := by
      intro W hW
      have h := bytes_any l l A9 A c9 c W (hrd9.below hW) (Hr.out.below (hb25.trans (hW.mono hb25.size))) (by rw [Hl34.out]; omega)
      rw [decide_eq_true rfl] at h
      rw [Hl34.out] at h ⊢
      exact h
    clear hwr hR hrd9 Hown hb24 hb23
    go_wp2_with fail
    refine (HB.out _ (Below.refl _ _)).mono ?_
    rintro e w26 ⟨rfl, hb26⟩
    have hb27 := bnext hb25 hb26
    go_wp2_with fail
    refine (awake_any _).mono ?_
    rintro e w28 ⟨rfl, hb28⟩
    go_wp2_with fail
    go_ret
    exact ⟨rfl, bnext hb27 hb28⟩
  · have hk1 : (k != 0) = true := by rw [bne_iff_ne]; exact hk0
    subst hV
    clear hb21 hk0
    have hq := fun w => eql_info w 0 0 0 0 0 0 0 0 (fun _ => 0)
    simp only [ofV] at hq
    simp only [zeroV, ofV]
    go_upto_region 9 with (first | (refine wpList_store_new rfl 34 _ _ rfl _ rfl rfl rfl (by kernel_rfl) (by rfl) (ofV_one 0 0 0 0 0 0 0 0 (fun _ => 0)) ?_; intro w23 hw23))
    have HI23 : Hid (w23.heap[w21.heap.size]? = some (.cells #[.int .i64 0, .int .i64 0, .int .i64 0, .int .i64 0, .int .i64 0, .int .i64 0, .int .i64 0, .int .i64 0, .int .u8 0, .int .u8 0, .int .u8 0, .int .u8 0, .int .u8 0, .int .u8 0, .int .u8 0, .int .u8 0, .int .u8 0, .int .u8 0, .int .u8 0, .int .u8 0, .int .u8 0, .int .u8 0, .int .u8 0, .int .u8 0] 34 (0, 0))) := by show _ = _; rw [← hw23]; exact heap_alloc_last w21 _
    have hb23 : Below w.heap.size w w23 := by rw [← hw23]; exact bal hb22 _
    clear hw23 hb22
    generalize w21.heap.size = g2 at *
    go_wp2_with (refine wpList_load_row_g (by rfl) 34 _ rfl g2 rfl 34 #[.int .i64 0, .int .i64 0, .int .i64 0, .int .i64 0, .int .i64 0, .int .i64 0, .int .i64 0, .int .i64 0, .int .u8 0, .int .u8 0, .int .u8 0, .int .u8 0, .int .u8 0, .int .u8 0, .int .u8 0, .int .u8 0, .int .u8 0, .int .u8 0, .int .u8 0, .int .u8 0, .int .u8 0, .int .u8 0, .int .u8 0, .int .u8 0] (0, 0) _ HI23.out Try.underlying34 rfl (by kernel_rfl) ?_)
    refine (awake_any _).mono ?_
    rintro e w28 ⟨rfl, hb28⟩
    go_wp2_with fail
    go_ret
    exact ⟨rfl, bnext hb23 hb28⟩

set_option maxHeartbeats 2000000 in
theorem back_ok (n s : Nat → Int) (hm : mayN n = true) (hs : ∀ i, i < 16 → 0 ≤ s i ∧ s i < 256) (l : List Nat) (hl8 : ∀ x ∈ l, x < 256) (A : Option Addr) (c : Nat) (w : World) (hr : Rd w A (nv8 l)) (hc : l.length ≤ c) (h : l.length ≤ 100) :
    Calls Try.prog 8 #[.agg (ofV (n 0) (n 1) (n 2) (n 3) (n 4) (n 5) (n 6) (n 7) s), .slice A l.length c] w fun e w' => e = .returned (.bool true) ∧ Below w.heap.size w w' := by
  have HWy := Lib.hid (Write_ok (n 0) (n 1) (n 2) (n 3) (n 4) (n 5) (n 6) (n 7) s hm hs)
  have HI : Hid ((w.alloc (.cells (ofV (n 0) (n 1) (n 2) (n 3) (n 4) (n 5) (n 6) (n 7) s) 34)).heap[w.heap.size]? = some (.cells (ofV (n 0) (n 1) (n 2) (n 3) (n 4) (n 5) (n 6) (n 7) s) 34 (0, 0))) := heap_alloc_last w _
  have Hszo : Hid ((ofV (n 0) (n 1) (n 2) (n 3) (n 4) (n 5) (n 6) (n 7) s).size = 24) := rfl
  have H1o : Hid ((ofV (n 0) (n 1) (n 2) (n 3) (n 4) (n 5) (n 6) (n 7) s).all (·.oneCell') = true) := ofV_one _ _ _ _ _ _ _ _ _
  have HRW := Lib.hid (read_write n s hm hs)
  have HN := Lib.hid (fun W => neq_info W (n 0) (n 1) (n 2) (n 3) (n 4) (n 5) (n 6) (n 7) s)
  have Hr := Lib.hid hr
  have H8 := Lib.hid hl8
  have Hs := Lib.hid hs
  clear hm hr hl8 hs
  generalize ofV (n 0) (n 1) (n 2) (n 3) (n 4) (n 5) (n 6) (n 7) s = V0 at *
  go_enter Try.func8, Try.ntmps8
  go_wp2_with (refine wpList_load_row_g (by rfl) 34 _ rfl w.heap.size rfl 34 V0 (0, 0) _ HI.out Try.underlying34 rfl (by rw [Hszo.out]; kernel_rfl) ?_)
  refine (HWy.out _).mono ?_
  rintro e w1 ⟨v, R, rfl, hR, Hown, hb1⟩
  obtain ⟨hv1, hv2⟩ := HRW.out R hR
  have hlt := wrB_lt (n 3) (n 4) (n 5) (n 6) R s Hs.out
  have hlen := wrB_length (n 3) (n 4) (n 5) (n 6) R s
  obtain ⟨A1, c1, rfl, hc1, hrd, -⟩ := own_nilcap Hown.out
  have HRd : Hid (Calls Try.prog 14 #[.slice A1 34 c1] w1 fun e w' => e = .returned (.tuple #[.agg V0, .int .i64 0]) ∧ Below w1.heap.size w1 w') := by
    have h := read_34 _ hlt hlen A1 c1 w1 hrd hc1
    rw [hv2] at h
    show Calls _ _ _ _ _
    refine h.mono ?_
    rintro e w' ⟨rfl, hb⟩
    exact ⟨by rw [← hv1]; rfl, hb⟩
  have HI1 := Lib.hid (hrow_below HI.out hb1)
  have hb2 : Below w.heap.size w w1 := by repeat (first | exact Below.refl _ _ | assumption | refine below_drewN ?_ _ | refine Below.drew ?_ | refine Below.alloc ?_ (Nat.le_refl _) _ | refine bal ?_ _ | refine bnext ?_ (by assumption))
  clear hb1 HI HWy hv1 hv2 hlt hlen hrd Hown HRW hR Hs
  go_wp2_with fail
  refine (HRd.out).mono ?_
  rintro e w3 ⟨rfl, hb3⟩
  have HI3 := Lib.hid (hrow_below HI1.out hb3)
  have hb4 := bnext hb2 hb3
  clear hb2 hb3 HI1 HRd
  go_upto_region 6 with (first | (refine wpList_store_new rfl 34 _ _ rfl _ rfl rfl rfl (by rw [Hszo.out]; kernel_rfl) (by rw [Hszo.out]; rfl) H1o.out ?_; intro w5 hw5))
  have HI5 : Hid (w5.heap[w.heap.size]? = some (.cells V0 34 (0, 0))) := by show _ = _; rw [← hw5]; exact hrow_alloc HI3.out _
  have HJ5 : Hid (w5.heap[w3.heap.size]? = some (.cells V0 34 (0, 0))) := by show _ = _; rw [← hw5]; exact heap_alloc_last w3 _
  have hb5 : Below w.heap.size w w5 := by rw [← hw5]; exact bal hb4 _
  have hn : ∀ W, (binOp .neq 34 (.agg V0) (.agg V0)).run Try.prog W = .ok (.bool false) W := HN.out
  clear hb4 hw5 HI3 HN
  generalize w3.heap.size = g1 at *
  go_wp2_with (first | (refine wpList_load_row_g (by rfl) 34 (.tmp 7) rfl g1 rfl 34 V0 (0, 0) _ HJ5.out Try.underlying34 rfl (by rw [Hszo.out]; kernel_rfl) ?_) | (refine wpList_load_row_g (by rfl) 34 (.tmp 2) rfl w.heap.size rfl 34 V0 (0, 0) _ HI5.out Try.underlying34 rfl (by rw [Hszo.out]; kernel_rfl) ?_))
  clear hn
  refine ((read_any l H8.out A c _ (Hr.out.below (hb5)) hc).mono ?_)
  rintro e w21 ⟨V, k, rfl, hok, hb21⟩
  have hb22 := bnext (hb5) hb21
  rcases hok with ⟨rfl, hl34, hmay, hV⟩ | ⟨hk0, hV⟩
  · have HV := Lib.hid hV
    clear hV hb21
    have Hl34 := Lib.hid hl34
    have H1 : Hid (V.all (·.oneCell') = true) := by show _ = _; rw [HV.out]; exact ofV_one _ _ _ _ _ _ _ _ _
    have Hsz : Hid (V.size = 24) := by show _ = _; rw [HV.out]; rfl
    have hm2 : mayN (nOf (rP0 l) (rP1 l) (rP2 l) (rMn l) (rMx l) (rMf l) (rXf l) (rTt l)) = true := hmay
    have HW : Hid (∀ W, Calls Try.prog 18 #[.agg V] W fun e w' => ∃ v R, e = .returned (.tuple #[v, .int .i64 0]) ∧ R % 18446744073709551616 = restN (rP0 l) (rP1 l) (rP2 l) (rTt l) % 18446744073709551616 ∧ Hid (w'.ownsRow W.heap.size 5 1 v 34 (nv8 (wrB (rMn l) (rMx l) (rMf l) (rXf l) R (rS l)))) ∧ Below W.heap.size W w') := by
      intro W
      rw [HV.out]
      exact Write_ok (rP0 l) (rP1 l) (rP2 l) (rMn l) (rMx l) (rMf l) (rXf l) (rTt l) (rS l) hmay (fun i hi => rS_bd l H8.out i) W
    clear hm2 hmay HV hl34
    go_upto_region 9 with (first | (refine wpList_store_new rfl 34 _ _ rfl _ rfl rfl rfl (by rw [Hsz.out]; kernel_rfl) (by rw [Hsz.out]; rfl) H1.out ?_; intro w23 hw23))
    have HI23 : Hid (w23.heap[w21.heap.size]? = some (.cells V 34 (0, 0))) := by show _ = _; rw [← hw23]; exact heap_alloc_last w21 _
    have hb23 : Below w.heap.size w w23 := by rw [← hw23]; exact bal hb22 _
    clear hw23 hb22
    generalize w21.heap.size = g2 at *
    go_wp2_with (refine wpList_load_row_g (by rfl) 34 _ rfl g2 rfl 34 V (0, 0) _ HI23.out Try.underlying34 rfl (by rw [Hsz.out]; kernel_rfl) ?_)
    refine (HW.out _).mono ?_
    rintro e w24 ⟨v, R, rfl, hR, Hown, hb24⟩
    have hwr := write_read l H8.out Hl34.out R hR
    rw [hwr] at Hown
    obtain ⟨A9, c9, rfl, hc9, hrd9, -⟩ := own_nilcap Hown.out
    have hb25 := bnext hb23 hb24
    have HB : Hid (∀ W, Below w24.heap.size w24 W → Calls Try.prog 20 #[.slice A9 34 c9, .slice A l.length c] W fun e w' => e = .returned (.bool true) ∧ Below W.heap.size W w') := by
      intro W hW
      have h := bytes_any l l A9 A c9 c W (hrd9.below hW) (Hr.out.below (hb25.trans (hW.mono hb25.size))) (by rw [Hl34.out]; omega)
      rw [decide_eq_true rfl] at h
      rw [Hl34.out] at h ⊢
      exact h
    clear hwr hR hrd9 Hown hb24 hb23
    go_wp2_with fail
    refine (HB.out _ (Below.refl _ _)).mono ?_
    rintro e w26 ⟨rfl, hb26⟩
    have hb27 := bnext hb25 hb26
    go_wp2_with fail
    refine (awake_any _).mono ?_
    rintro e w28 ⟨rfl, hb28⟩
    go_wp2_with fail
    go_ret
    exact ⟨rfl, bnext hb27 hb28⟩
  · have hk1 : (k != 0) = true := by rw [bne_iff_ne]; exact hk0
    subst hV
    clear hb21 hk0
    have hq := fun w => eql_info w 0 0 0 0 0 0 0 0 (fun _ => 0)
    simp only [ofV] at hq
    simp only [zeroV, ofV]
    go_upto_region 9 with (first | (refine wpList_store_new rfl 34 _ _ rfl _ rfl rfl rfl (by kernel_rfl) (by rfl) (ofV_one 0 0 0 0 0 0 0 0 (fun _ => 0)) ?_; intro w23 hw23))
    have HI23 : Hid (w23.heap[w21.heap.size]? = some (.cells #[.int .i64 0, .int .i64 0, .int .i64 0, .int .i64 0, .int .i64 0, .int .i64 0, .int .i64 0, .int .i64 0, .int .u8 0, .int .u8 0, .int .u8 0, .int .u8 0, .int .u8 0, .int .u8 0, .int .u8 0, .int .u8 0, .int .u8 0, .int .u8 0, .int .u8 0, .int .u8 0, .int .u8 0, .int .u8 0, .int .u8 0, .int .u8 0] 34 (0, 0))) := by show _ = _; rw [← hw23]; exact heap_alloc_last w21 _
    have hb23 : Below w.heap.size w w23 := by rw [← hw23]; exact bal hb22 _
    clear hw23 hb22
    generalize w21.heap.size = g2 at *
    go_wp2_with (refine wpList_load_row_g (by rfl) 34 _ rfl g2 rfl 34 #[.int .i64 0, .int .i64 0, .int .i64 0, .int .i64 0, .int .i64 0, .int .i64 0, .int .i64 0, .int .i64 0, .int .u8 0, .int .u8 0, .int .u8 0, .int .u8 0, .int .u8 0, .int .u8 0, .int .u8 0, .int .u8 0, .int .u8 0, .int .u8 0, .int .u8 0, .int .u8 0, .int .u8 0, .int .u8 0, .int .u8 0, .int .u8 0] (0, 0) _ HI23.out Try.underlying34 rfl (by kernel_rfl) ?_)
    refine (awake_any _).mono ?_
    rintro e w28 ⟨rfl, hb28⟩
    go_wp2_with fail
    go_ret
    exact ⟨rfl, bnext hb23 hb28⟩
end Go.Proofs.Ytikgpohoggpldaa
