/-
  jetsamlaw08.HeaderWrites: its walk.
-/
import Derived.Test.YtgohfbfdhdepnaaDoorRChk08
import Derived.Test.YtgohfbfdhdepnaaDoorRLaw08
import Derived.Test.YtgohfbfdhdepnaaDoorRBytes08
import Derived.Test.YtgohfbfdhdepnaaDoorAw08
namespace Go.Proofs.YtgohfbfdhdepnaaDoor
open Go.RowKit

theorem RChk_any (h : Hd) (w : World) : Calls Tryd.prog 8 #[h.val] w fun e w' => e = .returned (.int .i64 (chkE h)) ∧ Below w.heap.size w w' := by
  rw [← chk_ref]
  cases hb : rBad h with
  | true =>
    have e : rE h = 13 := by rw [rE, if_pos hb]
    rw [e]
    exact RCheck_bad h hb w
  | false => exact RCheck_any h hb w

set_option maxHeartbeats 1000000 in
theorem Plain_any (h : Hd) (w : World) : Calls Tryd.prog 9 #[h.val] w fun e w' => e = .returned h.val ∧ Below w.heap.size w w' := by
  obtain ⟨V, bc, rc, m, dc, n, b, r, d⟩ := h
  simp only [Hd.val]
  go_enter Tryd.func9, Tryd.ntmps9
  go_wp2_with fail
  have hB : ((w.alloc (.cells (Hd.mk V bc rc m dc n b r d).cells 23)).alloc (.cells (Hd.mk V bc rc m dc n b r d).cells 26)).heap[w.heap.size + 1]? = some (.cells (Hd.mk V bc rc m dc n b r d).cells 26 (0, 0)) := by
    have h := heap_alloc_last (w.alloc (.cells (Hd.mk V bc rc m dc n b r d).cells 23)) (.cells (Hd.mk V bc rc m dc n b r d).cells 26)
    rw [World.size_alloc] at h
    exact h
  exact bodyPost_ret (results_cell_row (cs := (Hd.mk V bc rc m dc n b r d).cells) (t := 26) (fr := (0, 0)) (g := w.heap.size + 1) Tryd.results9 _ _ _ rfl hB Tryd.underlying26 rfl (by kernel_rfl)) rfl ⟨rfl, by repeat (first | exact Below.refl _ _ | assumption | refine below_drewN ?_ _ | refine Below.drew ?_ | refine Below.alloc ?_ (Nat.le_refl _) _ | refine bal ?_ _ | refine bnext ?_ (by assumption))⟩

set_option maxRecDepth 100000 in
set_option maxHeartbeats 8000000 in
theorem writes_walk (h : Hd) (hr63 : h.r ≤ 9223372036854775807) (w : World) (ht : HTabs w) :
    Calls Tryd.prog 3 #[h.val] w fun e w' => e = .returned (.bool true) ∧ Below w.heap.size w w' := by
  have HA := Lib.hid (fun W (hb : Below w.heap.size w W) => awake_any W (ht.below hb))
  have Hb0 : Hid (Below w.heap.size w (w.alloc (.cells h.cells 23))) := bal (Below.refl _ _) _
  have HB0 : Hid (HdAt (w.alloc (.cells h.cells 23)) w.heap.size h) := heap_alloc_last w _
  have HP := Lib.hid (fun W => Plain_any h W)
  have HR := Lib.hid (fun W => RChk_any h W)
  have HC := Lib.hid (fun W (hb : Below w.heap.size w W) => Check_any h hr63 W (ht.below hb))
  by_cases hc : chkE h = 0
  case neg =>
    have HW := Lib.hid (fun W (hb : Below w.heap.size w W) => Write_no h hr63 hc W (ht.below hb))
    have hx : (chkE h != 0) = true := by rw [bne_iff_ne]; exact hc
    generalize chkE h = xc at *
    obtain ⟨V, bc, rc, m, dc, n, b, r, d⟩ := h
    simp only [Hd.val, Hd.cells] at HW Hb0 HB0 HP HR HC ⊢
    clear hr63 ht hc
    go_enter Tryd.func3, Tryd.ntmps3
    go_wp2_with fail
    refine (HP.out _).mono ?_
    rintro e w2 ⟨rfl, hb2⟩
    have Hb2 := Lib.hid (bnext Hb0.out hb2)
    have HB2 : Hid (HdAt w2 w.heap.size ⟨V, bc, rc, m, dc, n, b, r, d⟩) := HB0.out.below hb2
    clear Hb0 HB0 hb2
    go_wp2_with fail
    refine (HR.out _).mono ?_
    rintro e w3 ⟨rfl, hb3⟩
    have Hb3 := Lib.hid (bnext Hb2.out hb3)
    have HB3 : Hid (HdAt w3 w.heap.size ⟨V, bc, rc, m, dc, n, b, r, d⟩) := HB2.out.below hb3
    clear HR Hb2 HB2 hb3
    go_wp2_with (refine wpList_load_row rfl 23 _ rfl w.heap.size rfl 23 #[.bool V, .int .i64 bc, .int .i64 rc, .int .i64 m, .int .i64 dc, .int .i64 n, .int .i64 b, .int .i64 r, .int .i64 d] (0, 0) _ HB3.out Tryd.underlying23 rfl (by kernel_rfl) ?_)
    refine (HW.out _ Hb3.out).mono ?_
    rintro e w4 ⟨rfl, hb4⟩
    have Hb4 := Lib.hid (bnext Hb3.out hb4)
    have HB4 : Hid (HdAt w4 w.heap.size ⟨V, bc, rc, m, dc, n, b, r, d⟩) := HB3.out.below hb4
    clear HW Hb3 HB3 hb4
    go_wp2_with (refine wpList_load_row rfl 23 _ rfl w.heap.size rfl 23 #[.bool V, .int .i64 bc, .int .i64 rc, .int .i64 m, .int .i64 dc, .int .i64 n, .int .i64 b, .int .i64 r, .int .i64 d] (0, 0) _ HB4.out Tryd.underlying23 rfl (by kernel_rfl) ?_)
    refine (HC.out _ Hb4.out).mono ?_
    rintro e w5 ⟨rfl, hb5⟩
    have Hb5 := Lib.hid (bnext Hb4.out hb5)
    clear HC Hb4 HB4 hb5
    go_wp2_with fail
    refine (HA.out _ Hb5.out).mono ?_
    rintro e w6 ⟨rfl, hb6⟩
    have hb7 := bnext Hb5.out hb6
    go_wp2_with fail
    go_ret
    exact ⟨rfl, hb7⟩
  have HW := Lib.hid (fun W (hb : Below w.heap.size w W) => Write_ok h hr63 hc W (ht.below hb))
  have HRB := Lib.hid (fun W => RBytes_ok h hr63 hc W)
  rw [hc] at HR HC
  have hF : (hdB h).length ≤ 1000 := by
    have hh := hd_ok hc
    obtain ⟨bc, rc, m, dc, n, hh, hbc, hrc, -⟩ := hh
    rw [hdB_length, hdI_length, hh]
    simp only [Int.toNat_natCast]
    rw [blkI_length, ratI_length]
    have h1 := (C3.szN_pos n).2
    have h2 : blW bc ≤ 16 := by unfold blW; (repeat' split) <;> omega
    have h3 : raW rc ≤ 16 := by unfold raW; (repeat' split) <;> omega
    omega
  generalize hdB h = F at *
  obtain ⟨V, bc, rc, m, dc, n, b, r, d⟩ := h
  simp only [Hd.val, Hd.cells] at HW Hb0 HB0 HP HR HC HRB ⊢
  clear hr63 ht hc
  go_enter Tryd.func3, Tryd.ntmps3
  go_wp2_with fail
  refine (HP.out _).mono ?_
  rintro e w2 ⟨rfl, hb2⟩
  have Hb2 := Lib.hid (bnext Hb0.out hb2)
  have HB2 : Hid (HdAt w2 w.heap.size ⟨V, bc, rc, m, dc, n, b, r, d⟩) := HB0.out.below hb2
  clear Hb0 HB0 hb2
  go_wp2_with fail
  refine (HR.out _).mono ?_
  rintro e w3 ⟨rfl, hb3⟩
  have Hb3 := Lib.hid (bnext Hb2.out hb3)
  have HB3 : Hid (HdAt w3 w.heap.size ⟨V, bc, rc, m, dc, n, b, r, d⟩) := HB2.out.below hb3
  clear HR Hb2 HB2 hb3
  go_wp2_with (refine wpList_load_row rfl 23 _ rfl w.heap.size rfl 23 #[.bool V, .int .i64 bc, .int .i64 rc, .int .i64 m, .int .i64 dc, .int .i64 n, .int .i64 b, .int .i64 r, .int .i64 d] (0, 0) _ HB3.out Tryd.underlying23 rfl (by kernel_rfl) ?_)
  refine (HW.out _ Hb3.out).mono ?_
  rintro e w4 ⟨v4, rfl, Hown4, hb4⟩
  obtain ⟨A4, c4, rfl, -, hr4⟩ := own_rd Hown4.out
  have Hb4 := Lib.hid (bnext Hb3.out hb4)
  have HB4 : Hid (HdAt w4 w.heap.size ⟨V, bc, rc, m, dc, n, b, r, d⟩) := HB3.out.below hb4
  have HR4 := Lib.hid hr4
  clear HW Hb3 HB3 hb4 Hown4 hr4
  go_wp2_with (refine wpList_load_row rfl 23 _ rfl w.heap.size rfl 23 #[.bool V, .int .i64 bc, .int .i64 rc, .int .i64 m, .int .i64 dc, .int .i64 n, .int .i64 b, .int .i64 r, .int .i64 d] (0, 0) _ HB4.out Tryd.underlying23 rfl (by kernel_rfl) ?_)
  refine (HC.out _ Hb4.out).mono ?_
  rintro e w5 ⟨rfl, hb5⟩
  have Hb5 := Lib.hid (bnext Hb4.out hb5)
  have HB5 : Hid (HdAt w5 w.heap.size ⟨V, bc, rc, m, dc, n, b, r, d⟩) := HB4.out.below hb5
  have HR5 := Lib.hid (HR4.out.below hb5)
  clear HC Hb4 HB4 hb5 HR4
  go_wp2_with (refine wpList_load_row rfl 23 _ rfl w.heap.size rfl 23 #[.bool V, .int .i64 bc, .int .i64 rc, .int .i64 m, .int .i64 dc, .int .i64 n, .int .i64 b, .int .i64 r, .int .i64 d] (0, 0) _ HB5.out Tryd.underlying23 rfl (by kernel_rfl) ?_)
  refine (HP.out _).mono ?_
  rintro e w6 ⟨rfl, hb6⟩
  have Hb6 := Lib.hid (bnext Hb5.out hb6)
  have HR6 := Lib.hid (HR5.out.below hb6)
  clear Hb5 HB5 hb6 HR5
  go_wp2_with fail
  refine (HRB.out _).mono ?_
  rintro e w7 ⟨v7, rfl, Hown7, hb7⟩
  obtain ⟨A7, c7, rfl, -, hr7⟩ := own_rd Hown7.out
  have Hb7 := Lib.hid (bnext Hb6.out hb7)
  have HR7 := Lib.hid (HR6.out.below hb7)
  clear Hb6 hb7 HR6 HRB Hown7
  go_wp2_with fail
  refine (bytes_any F F A4 A7 c4 c7 _ HR7.out hr7 (by omega)).mono ?_
  rintro e w8 ⟨rfl, hb8⟩
  rw [decide_eq_true rfl]
  have Hb8 := Lib.hid (bnext Hb7.out hb8)
  clear Hb7 hb8 HR7 hr7
  go_wp2_with fail
  refine (HA.out _ Hb8.out).mono ?_
  rintro e w9 ⟨rfl, hb9⟩
  have hb10 := bnext Hb8.out hb9
  go_wp2_with fail
  go_ret
  exact ⟨rfl, hb10⟩
end Go.Proofs.YtgohfbfdhdepnaaDoor
