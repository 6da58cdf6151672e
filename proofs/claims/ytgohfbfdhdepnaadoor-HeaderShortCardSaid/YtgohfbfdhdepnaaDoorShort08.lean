/-
  jetsamlaw08.HeaderShort: its walk.
-/
import Derived.Test.YtgohfbfdhdepnaaDoorShL08
import Derived.Test.YtgohfbfdhdepnaaDoorAw08
namespace Go.Proofs.YtgohfbfdhdepnaaDoor
open Go.RowKit

set_option maxRecDepth 100000 in
set_option maxHeartbeats 8000000 in
theorem short_walk (h : Hd) (hr63 : h.r ≤ 9223372036854775807) (w : World) (ht : HTabs w) :
    Calls Tryd.prog 5 #[h.val] w fun e w' => e = .returned (.bool true) ∧ Below w.heap.size w w' := by
  have HT := Lib.hid ht
  have HA := Lib.hid (fun W (hb : Below w.heap.size w W) => awake_any W (ht.below hb))
  have Hb0 : Hid (Below w.heap.size w (w.alloc (.cells h.cells 23))) := bal (Below.refl _ _) _
  by_cases hc : chkE h = 0
  case neg =>
    have HW := Lib.hid (fun W (hb : Below w.heap.size w W) => Write_no h hr63 hc W (ht.below hb))
    have HC := Lib.hid (fun W => Channels_any h.m W)
    have hx : (chkE h != 0) = true := by rw [bne_iff_ne]; exact hc
    have hx2 : (chkE h == 0) = false := by rw [beq_eq_false_iff_ne]; exact hc
    generalize chkE h = xc at *
    obtain ⟨V, bc, rc, m, dc, n, b, r, d⟩ := h
    simp only [Hd.val, Hd.cells] at HW Hb0 HC ⊢
    generalize chN m = cn at *
    generalize chE m = ce at *
    clear hr63 ht hc HT
    go_enter Tryd.func5, Tryd.ntmps5
    go_wp2_with fail
    refine (HW.out _ Hb0.out).mono ?_
    rintro e w1 ⟨rfl, hb1⟩
    have hb2 := bnext Hb0.out hb1
    have hq := (hb1.cell (p := ⟨w.heap.size, 3, none⟩) (by simp))
    have hm3 : w1.cell? ⟨w.heap.size, 3, none⟩ = some (.int .i64 m) := by rw [hq]; go_simp
    clear hq HW Hb0
    go_wp2_with fail
    refine (HC.out _).mono ?_
    rintro e w2 ⟨rfl, rfl⟩
    go_wp2_with fail
    refine (HA.out _ hb2).mono ?_
    rintro e w3 ⟨rfl, hb3⟩
    have hb4 := bnext hb2 hb3
    go_wp2_with fail
    go_ret
    exact ⟨rfl, hb4⟩
  obtain ⟨s1, s2, s3, s4, s5, s6, s7, s8, s9, s10⟩ := short_law h hc
  have hch : chE h.m = 0 := (codE_zero (chkE_zero hc).1).2.2.1
  have HW := Lib.hid (fun W (hb : Below w.heap.size w W) => Write_ok h hr63 hc W (ht.below hb))
  have HC := Lib.hid (fun W => Channels_any h.m W)
  rw [hch] at HC
  have HMk := Lib.hid (fun W (hb : Below w.heap.size w W) => Make_any h.V h.n h.b h.m h.r (chN h.m) (if h.d = 0 then 9 else h.d) s1 W (ht.below hb))
  have hR : mkR h.V h.n h.b h.m h.r (chN h.m) (if h.d = 0 then 9 else h.d) = mkH h.V h.n h.b h.m h.r (if h.d = 0 then 9 else h.d) := if_pos s2
  rw [s2, hR] at HMk
  have HW2 := Lib.hid (fun W (hb : Below w.heap.size w W) => Write_ok (mkH h.V h.n h.b h.m h.r (if h.d = 0 then 9 else h.d)) (by rw [s5]; exact hr63) s3 W (ht.below hb))
  try simp only at s8 s9
  generalize mkH h.V h.n h.b h.m h.r (if h.d = 0 then 9 else h.d) = X at *
  generalize hdB X = F2 at *
  generalize hdB h = F1 at *
  generalize chN h.m = cn at *
  have HB0 : Hid (HdAt (w.alloc (.cells h.cells 23)) w.heap.size h) := heap_alloc_last w _
  obtain ⟨V, bc, rc, m, dc, n, b, r, d⟩ := h
  obtain ⟨V2, bc2, rc2, m2, dc2, n2, b2, r2, d2⟩ := X
  try simp only at s4 s5 s6 s7
  subst s4 s5 s6 s7
  simp only [Hd.val, Hd.cells] at HW Hb0 HC HMk HW2 HB0 ⊢
  clear s1 s2 s3 s10 hR hch hc hr63 ht
  obtain ⟨L1, hL1⟩ : ∃ L1, F1.length = L1 := ⟨_, rfl⟩
  obtain ⟨L2, hL2⟩ : ∃ L2, F2.length = L2 := ⟨_, rfl⟩
  rw [hL1] at HW s8
  rw [hL2] at HW2 s8 s9
  have hl1 : (L2 : Int) ≤ L1 := by omega
  have hl2 : (L2 : Int) ≥ 6 := by omega
  clear hL1 hL2 s8 s9
  go_enter Tryd.func5, Tryd.ntmps5
  go_wp2_with fail
  refine (HW.out _ Hb0.out).mono ?_
  rintro e w1 ⟨v, rfl, Hown, hb1⟩
  obtain ⟨A1, c1, rfl, -, -⟩ := own_rd Hown.out
  have Hb1 := Lib.hid (bnext Hb0.out hb1)
  have HB1 : Hid (HdAt w1 w.heap.size ⟨V, bc, rc, m, dc, n2, b2, r2, d2⟩) := HB0.out.below hb1
  clear HW Hb0 HB0 hb1 Hown
  have f3 := HB1.out.c 3 (.int .i64 m) rfl
  have f7 := HB1.out.c 7 (.int .i64 r2) rfl
  have f8 := HB1.out.c 8 (.int .i64 d2) rfl
  have f0 := HB1.out.c 0 (.bool V) rfl
  have f5 := HB1.out.c 5 (.int .i64 n2) rfl
  have f6 := HB1.out.c 6 (.int .i64 b2) rfl
  have hlt := cell_lt f3
  have hne : w.heap.size ≠ w1.heap.size := by omega
  go_wp2_with fail
  refine (HC.out _).mono ?_
  rintro e w2 ⟨rfl, rfl⟩
  have HMk2 : Hid (∀ dd, (if d2 = 0 then (9 : Int) else d2) = dd → Calls Tryd.prog 15 #[.bool V, .int .i64 n2, .int .i64 b2, .int .i64 m, .agg #[.int .i64 r2, .int .i64 cn, .int .i64 dd]] (w2.alloc (.cells #[.int .i64 r2, .int .i64 cn, .int .i64 dd] 38)) fun e w' => e = .returned (.tuple #[.agg #[.bool V2, .int .i64 bc2, .int .i64 rc2, .int .i64 m2, .int .i64 dc2, .int .i64 n2, .int .i64 b2, .int .i64 r2, .int .i64 d2], .int .i64 0]) ∧ Below (w2.heap.size + 1) (w2.alloc (.cells #[.int .i64 r2, .int .i64 cn, .int .i64 dd] 38)) w') := by
    rintro dd rfl
    have h := HMk.out (w2.alloc (.cells #[.int .i64 r2, .int .i64 cn, .int .i64 (if d2 = 0 then (9 : Int) else d2)] 38)) (bal Hb1.out _)
    rw [World.size_alloc] at h
    exact h
  clear HMk HC
  by_cases hd : d2 = 0
  · have hM := HMk2.out 9 (if_pos hd)
    have HM := Lib.hid hM
    have hd' : (d2 == 0) = true := by rw [beq_iff_eq]; exact hd
    clear HMk2 hM hd
    go_wp2_with fail
    refine HM.out.mono ?_
    rintro e w3 ⟨rfl, hb3⟩
    have Hb3 : Hid (Below w2.heap.size w2 w3) := (bal (Below.refl _ _) (.cells #[.int .i64 r2, .int .i64 cn, .int .i64 9] 38)).trans (belowDown hb3 (Nat.le_succ _))
    have HB3 := Lib.hid (HB1.out.below Hb3.out)
    have Hb13 := Lib.hid (bnext Hb1.out Hb3.out)
    clear HM hb3 f0 f3 f5 f6 f7 f8 HB1 hlt hne
    go_wp2_with fail
    refine (HW2.out _ (bal Hb13.out _)).mono ?_
    rintro e w4 ⟨v4, rfl, Hown4, hb4⟩
    obtain ⟨A4, c4, rfl, -, -⟩ := own_rd Hown4.out
    have HB4 : Hid (HdAt w4 w.heap.size ⟨V, bc, rc, m, dc, n2, b2, r2, d2⟩) := HdAt.below (hrow_alloc HB3.out _) hb4
    have HX4 : Hid (HdAt w4 w3.heap.size ⟨V2, bc2, rc2, m2, dc2, n2, b2, r2, d2⟩) := HdAt.below (heap_alloc_last w3 _) hb4
    have hb14 := bnext (bal Hb13.out _) hb4
    clear HW2 HB3 Hb13 hb4 Hown4
    have f5 := HB4.out.c 5 (.int .i64 n2) rfl
    have f6 := HB4.out.c 6 (.int .i64 b2) rfl
    have f7 := HB4.out.c 7 (.int .i64 r2) rfl
    have f8 := HB4.out.c 8 (.int .i64 d2) rfl
    have g5 := HX4.out.c 5 (.int .i64 n2) rfl
    have g6 := HX4.out.c 6 (.int .i64 b2) rfl
    have g7 := HX4.out.c 7 (.int .i64 r2) rfl
    have g8 := HX4.out.c 8 (.int .i64 d2) rfl
    go_wp2_with fail
    refine (HA.out _ hb14).mono ?_
    rintro e w5 ⟨rfl, hb5⟩
    have hb6 := bnext hb14 hb5
    go_wp2_with fail
    go_ret
    exact ⟨rfl, hb6⟩
  · have hM := HMk2.out d2 (if_neg hd)
    have HM := Lib.hid hM
    have hd' : (d2 == 0) = false := by rw [beq_eq_false_iff_ne]; exact hd
    clear HMk2 hM hd
    go_wp2_with fail
    refine HM.out.mono ?_
    rintro e w3 ⟨rfl, hb3⟩
    have Hb3 : Hid (Below w2.heap.size w2 w3) := (bal (Below.refl _ _) (.cells #[.int .i64 r2, .int .i64 cn, .int .i64 d2] 38)).trans (belowDown hb3 (Nat.le_succ _))
    have HB3 := Lib.hid (HB1.out.below Hb3.out)
    have Hb13 := Lib.hid (bnext Hb1.out Hb3.out)
    clear HM hb3 f0 f3 f5 f6 f7 f8 HB1 hlt hne
    go_wp2_with fail
    refine (HW2.out _ (bal Hb13.out _)).mono ?_
    rintro e w4 ⟨v4, rfl, Hown4, hb4⟩
    obtain ⟨A4, c4, rfl, -, -⟩ := own_rd Hown4.out
    have HB4 : Hid (HdAt w4 w.heap.size ⟨V, bc, rc, m, dc, n2, b2, r2, d2⟩) := HdAt.below (hrow_alloc HB3.out _) hb4
    have HX4 : Hid (HdAt w4 w3.heap.size ⟨V2, bc2, rc2, m2, dc2, n2, b2, r2, d2⟩) := HdAt.below (heap_alloc_last w3 _) hb4
    have hb14 := bnext (bal Hb13.out _) hb4
    clear HW2 HB3 Hb13 hb4 Hown4
    have f5 := HB4.out.c 5 (.int .i64 n2) rfl
    have f6 := HB4.out.c 6 (.int .i64 b2) rfl
    have f7 := HB4.out.c 7 (.int .i64 r2) rfl
    have f8 := HB4.out.c 8 (.int .i64 d2) rfl
    have g5 := HX4.out.c 5 (.int .i64 n2) rfl
    have g6 := HX4.out.c 6 (.int .i64 b2) rfl
    have g7 := HX4.out.c 7 (.int .i64 r2) rfl
    have g8 := HX4.out.c 8 (.int .i64 d2) rfl
    go_wp2_with fail
    refine (HA.out _ hb14).mono ?_
    rintro e w5 ⟨rfl, hb5⟩
    have hb6 := bnext hb14 hb5
    go_wp2_with fail
    go_ret
    exact ⟨rfl, hb6⟩
end Go.Proofs.YtgohfbfdhdepnaaDoor
