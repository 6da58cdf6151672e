/-
  stereo.Part, stereo.Join (mode 9).
-/
import Derived.Test.YtpjicibngdlhbaaStereo
namespace Go.Proofs.Ytpjicibngdlhbaa
open Go.RowKit

theorem info_int : (Try.prog.info? 3).map (fun i => (i.zero, i.size, i.bytes)) = some (some (.int .i64 0), 1, 8) := by kernel_rfl
theorem zv_snoc (l : List Int) (x : Int) : zv (l ++ [x]) = zv l ++ [.int .i64 x] := by simp [zv]
theorem outB_no {x : Int} (h : outB x = false) : -1099511627776 ≤ x ∧ x ≤ 1099511627776 := by simp [outB] at h; omega
theorem wrong_zero {mode : Int} {l m : List Int} (h : wrongR mode l m = 0) : badMode mode = false ∧ l.length = m.length ∧ (∀ x ∈ l, outB x = false) ∧ ∀ x ∈ m, outB x = false := by
  unfold wrongR at h
  split at h
  · cases h
  · rename_i h1
    split at h
    · cases h
    · rename_i h2
      split at h
      · cases h
      · rename_i h3
        simp only [anyO, Bool.or_eq_true, List.any_eq_true, not_or, not_exists, not_and, Bool.not_eq_true] at h3
        exact ⟨by simpa using h1, by omega, h3.1, h3.2⟩

/-- What is written of two samples. -/
def twoN (mode x y : Int) : Int × Int := if mode = 8 then (x, x - y) else if mode = 9 then (x - y, y) else if mode = 10 then ((x + y) / 2, x - y) else (x, y)
def sumN (_ x y : Int) : Int × Int := (x + y, y)

theorem part1_still (mode x y : Int) (hx : outB x = false) (hy : outB y = false) (_ : True) (g : Nat) (w : World) (hg : w.cell? ⟨g, 0, none⟩ = some (.int .i64 mode)) :
    Calls Try.prog 19 #[.int .i64 x, .int .i64 y, .pointer (some ⟨g, 0, none⟩)] w fun e w' => e = .returned (.tuple #[.int .i64 (twoN mode x y).1, .int .i64 (twoN mode x y).2]) ∧ w' = w := by
  obtain ⟨x1, x2⟩ := outB_no hx
  obtain ⟨y1, y2⟩ := outB_no hy
  clear hx hy
  by_cases h8 : mode = 8
  · have H : Hid (twoN mode x y = (x, x - y)) := if_pos h8
    have e8 : (mode == 8) = true := by rw [beq_iff_eq]; exact h8
    clear h8
    go_enter Try.func19, Try.ntmps19
    go_wp2_with fail
    go_ret2
    exact ⟨by rw [H.out]; rfl, rfl⟩
  · have e8 : (mode == 8) = false := by rw [beq_eq_false_iff_ne]; exact h8
    by_cases h9 : mode = 9
    · have H : Hid (twoN mode x y = (x - y, y)) := (if_neg h8).trans (if_pos h9)
      have e9 : (mode == 9) = true := by rw [beq_iff_eq]; exact h9
      clear h8 h9
      go_enter Try.func19, Try.ntmps19
      go_wp2_with fail
      go_ret2
      exact ⟨by rw [H.out]; rfl, rfl⟩
    · have e9 : (mode == 9) = false := by rw [beq_eq_false_iff_ne]; exact h9
      by_cases h10 : mode = 10
      · have H : Hid (twoN mode x y = ((x + y) / 2, x - y)) := (if_neg h8).trans ((if_neg h9).trans (if_pos h10))
        have e10 : (mode == 10) = true := by rw [beq_iff_eq]; exact h10
        clear h8 h9 h10
        go_enter Try.func19, Try.ntmps19
        go_wp2_with fail
        go_ret2
        exact ⟨by rw [H.out]; rfl, rfl⟩
      · have e10 : (mode == 10) = false := by rw [beq_eq_false_iff_ne]; exact h10
        have H : Hid (twoN mode x y = (x, y)) := (if_neg h8).trans ((if_neg h9).trans (if_neg h10))
        clear h8 h9 h10
        go_enter Try.func19, Try.ntmps19
        go_wp2_with fail
        go_ret2
        exact ⟨by rw [H.out]; rfl, rfl⟩
theorem join1_still (mode x y : Int) (hx : outB x = false) (hy : outB y = false) (hm : mode = 9) (g : Nat) (w : World) (hg : w.cell? ⟨g, 0, none⟩ = some (.int .i64 mode)) :
    Calls Try.prog 22 #[.int .i64 x, .int .i64 y, .pointer (some ⟨g, 0, none⟩)] w fun e w' => e = .returned (.tuple #[.int .i64 (sumN mode x y).1, .int .i64 (sumN mode x y).2]) ∧ w' = w := by
  obtain ⟨x1, x2⟩ := outB_no hx
  obtain ⟨y1, y2⟩ := outB_no hy
  clear hx hy
  subst hm
  go_enter Try.func22, Try.ntmps22
  go_wp2_with fail
  go_ret2
  exact ⟨rfl, rfl⟩

set_option maxHeartbeats 1000000 in
theorem each_part (mode : Int) (l m : List Int) (hlm : l.length = m.length) (h1 : ∀ x ∈ l, outB x = false) (h2 : ∀ x ∈ m, outB x = false) (hmode : True) (A B : Option Addr) (c d g : Nat) (w : World) (hr : Rd w A (zv l)) (hs : Rd w B (zv m)) (hl : l.length < 1000000)
    (hg : w.cell? ⟨g, 0, none⟩ = some (.int .i64 mode)) :
    Calls Try.prog 18 #[.slice A l.length c, .slice B m.length d, .func (.func 19) #[] #[.pointer (some ⟨g, 0, none⟩)]] w fun e w' => ∃ A1 c1 A2 c2, e = .returned (.tuple #[.slice A1 l.length c1, .slice A2 l.length c2, .int .i64 0]) ∧
      Hid (Rd w' A1 (zv (List.zipWith (fun x y => (twoN mode x y).1) l m))) ∧ Hid (Rd w' A2 (zv (List.zipWith (fun x y => (twoN mode x y).2) l m))) ∧ Below w.heap.size w w' := by
  have Hr := Lib.hid hr; clear hr
  have Hs := Lib.hid hs; clear hs
  have H1 := Lib.hid h1; clear h1
  have H2 := Lib.hid h2; clear h2
  have Hg := Lib.hid hg; clear hg
  have Hlm := Lib.hid hlm
  have Hmode := Lib.hid hmode; clear hmode
  obtain ⟨q, hq⟩ : ∃ q, m.length = q := ⟨_, rfl⟩
  rw [hq] at hlm
  rw [hq]
  have Hq := Lib.hid hq
  have Hlq := Lib.hid hlm
  clear hq hlm
  go_enter Try.func18, Try.ntmps18
  go_wp2_with fail
  go_loopw [6, 7, 15] (fun u v i wr => ∃ k : Nat, k ≤ l.length ∧ i = .int .i64 k ∧ Hid (Below w.heap.size w wr) ∧ Hid (wr.ownsRow w.heap.size 3 1 u k (zv ((List.zipWith (fun x y => (twoN mode x y).1) l m).take k))) ∧ Hid (wr.ownsRow w.heap.size 3 1 v k (zv ((List.zipWith (fun x y => (twoN mode x y).2) l m).take k))) ∧ Hid (v.ownBlock = none ∨ v.ownBlock ≠ u.ownBlock)) (fun _ _ i _ => l.length - (intOf i).toNat)
  case atStart => exact ⟨0, by omega, rfl, Below.refl _ _, World.ownsRow_nil w w.heap.size _ 1, World.ownsRow_nil w w.heap.size _ 1, .inl rfl⟩
  case round =>
    obtain ⟨k, hk, rfl, Hb, Hu, Hv, Hap⟩ := hrel
    by_cases hkk : k < l.length
    · have hkm : k < m.length := by have := Hq.out; have := Hlq.out; omega
      obtain ⟨b1, o1, rfl, hc1⟩ := (Hr.out.below Hb.out) k (.int .i64 l[k]) (by simp [zv, hkk])
      obtain ⟨b2, o2, rfl, hc2⟩ := (Hs.out.below Hb.out) k (.int .i64 m[k]) (by simp [zv, hkm])
      have C := part1_still mode l[k] m[k] (H1.out _ (List.getElem_mem hkk)) (H2.out _ (List.getElem_mem hkm)) Hmode.out g wr ((Hb.out.cell (p := ⟨g, 0, none⟩) (cell_lt Hg.out)).trans Hg.out)
      have Ht1 : Hid (zv ((List.zipWith (fun x y => (twoN mode x y).1) l m).take (k + 1)) = zv ((List.zipWith (fun x y => (twoN mode x y).1) l m).take k) ++ [.int .i64 (twoN mode l[k] m[k]).1]) := by
        show _ = _
        rw [List.take_succ_eq_append_getElem (by rw [List.length_zipWith]; omega), zv_snoc, List.getElem_zipWith]
      have Ht2 : Hid (zv ((List.zipWith (fun x y => (twoN mode x y).2) l m).take (k + 1)) = zv ((List.zipWith (fun x y => (twoN mode x y).2) l m).take k) ++ [.int .i64 (twoN mode l[k] m[k]).2]) := by
        show _ = _
        rw [List.take_succ_eq_append_getElem (by rw [List.length_zipWith]; omega), zv_snoc, List.getElem_zipWith]
      generalize l[k] = x at *
      generalize m[k] = y at *
      generalize (twoN mode x y).1 = px at *
      generalize (twoN mode x y).2 = py at *
      have HC := Lib.hid C
      clear C
      have hkq : (k : Int) < q := by have := Hlq.out; omega
      have hb := Hb.out
      have hsz := hb.size
      go_wp2_with fail
      refine HC.out.mono ?_
      rintro e w3 ⟨rfl, rfl⟩
      go_wp2_with (first | (at_builtin; refine app1o (w0 := w) rfl _ _ 22 rfl Try.underlying22 info_int rfl (by decide) rfl Hu.out (Nat.le_refl _) hsz hb rfl rfl (one_int _ _) (by omega) (by unfold maxLen; omega) ?_; intro u1 w5 own1 hb1 hs1 hgr1 hat1; have hk1 := row_kept (v := u6) (v' := u1) Hv.out Hap.out hgr1 hat1; have Hk1 := Lib.hid hk1.1; have Hap1 := Lib.hid hk1.2; have Hown1 := Lib.hid own1; clear hk1 hgr1 hat1 own1) | (at_builtin; refine app1o (w0 := w) rfl _ _ 22 rfl Try.underlying22 info_int rfl (by decide) rfl Hk1.out (Nat.le_refl _) hs1 hb1 rfl rfl (one_int _ _) (by omega) (by unfold maxLen; omega) ?_; intro v1 w6 own2 hb2 hs2 hgr2 hat2; have hk2 := row_kept (v := u7) (v' := v1) Hown1.out (apart_symm Hap1.out) hgr2 hat2; have Hk2 := Lib.hid hk2.1; have Hap2 := Lib.hid (apart_symm hk2.2); have Hown2 := Lib.hid own2; clear hk2 hgr2 hat2 own2))
      go_roundw
      case rel =>
        refine ⟨k + 1, by omega, by go_num, hb2, ?_, ?_, Hap2⟩
        · rw [Ht1.out]; exact Hk2.out
        · rw [Ht2.out]; exact Hown2.out
      case measure => simp [intOf] <;> omega
    · obtain rfl : k = l.length := by omega
      obtain ⟨A1, c1, rfl, hc1, hr1⟩ := own_rd Hu.out
      obtain ⟨A2, c2, rfl, hc2, hr2⟩ := own_rd Hv.out
      have HR1 := Lib.hid hr1
      have HR2 := Lib.hid hr2
      have L1 : Hid ((List.zipWith (fun x y => (twoN mode x y).1) l m).take l.length = List.zipWith (fun x y => (twoN mode x y).1) l m) := List.take_of_length_le (by rw [List.length_zipWith]; omega)
      have L2 : Hid ((List.zipWith (fun x y => (twoN mode x y).2) l m).take l.length = List.zipWith (fun x y => (twoN mode x y).2) l m) := List.take_of_length_le (by rw [List.length_zipWith]; omega)
      clear hr1 hr2 Hu Hv Hap
      go_wp2_with fail
      go_ret3
      refine ⟨_, _, _, _, rfl, ?_, ?_, Hb.out⟩
      · rw [← L1.out]; exact HR1
      · rw [← L2.out]; exact HR2

set_option maxHeartbeats 1000000 in
theorem each_join (mode : Int) (l m : List Int) (hlm : l.length = m.length) (h1 : ∀ x ∈ l, outB x = false) (h2 : ∀ x ∈ m, outB x = false) (hmode : mode = 9) (A B : Option Addr) (c d g : Nat) (w : World) (hr : Rd w A (zv l)) (hs : Rd w B (zv m)) (hl : l.length < 1000000)
    (hg : w.cell? ⟨g, 0, none⟩ = some (.int .i64 mode)) :
    Calls Try.prog 18 #[.slice A l.length c, .slice B m.length d, .func (.func 22) #[] #[.pointer (some ⟨g, 0, none⟩)]] w fun e w' => ∃ A1 c1 A2 c2, e = .returned (.tuple #[.slice A1 l.length c1, .slice A2 l.length c2, .int .i64 0]) ∧
      Hid (Rd w' A1 (zv (List.zipWith (fun x y => (sumN mode x y).1) l m))) ∧ Hid (Rd w' A2 (zv (List.zipWith (fun x y => (sumN mode x y).2) l m))) ∧ Below w.heap.size w w' := by
  have Hr := Lib.hid hr; clear hr
  have Hs := Lib.hid hs; clear hs
  have H1 := Lib.hid h1; clear h1
  have H2 := Lib.hid h2; clear h2
  have Hg := Lib.hid hg; clear hg
  have Hlm := Lib.hid hlm
  have Hmode := Lib.hid hmode; clear hmode
  obtain ⟨q, hq⟩ : ∃ q, m.length = q := ⟨_, rfl⟩
  rw [hq] at hlm
  rw [hq]
  have Hq := Lib.hid hq
  have Hlq := Lib.hid hlm
  clear hq hlm
  go_enter Try.func18, Try.ntmps18
  go_wp2_with fail
  go_loopw [6, 7, 15] (fun u v i wr => ∃ k : Nat, k ≤ l.length ∧ i = .int .i64 k ∧ Hid (Below w.heap.size w wr) ∧ Hid (wr.ownsRow w.heap.size 3 1 u k (zv ((List.zipWith (fun x y => (sumN mode x y).1) l m).take k))) ∧ Hid (wr.ownsRow w.heap.size 3 1 v k (zv ((List.zipWith (fun x y => (sumN mode x y).2) l m).take k))) ∧ Hid (v.ownBlock = none ∨ v.ownBlock ≠ u.ownBlock)) (fun _ _ i _ => l.length - (intOf i).toNat)
  case atStart => exact ⟨0, by omega, rfl, Below.refl _ _, World.ownsRow_nil w w.heap.size _ 1, World.ownsRow_nil w w.heap.size _ 1, .inl rfl⟩
  case round =>
    obtain ⟨k, hk, rfl, Hb, Hu, Hv, Hap⟩ := hrel
    by_cases hkk : k < l.length
    · have hkm : k < m.length := by have := Hq.out; have := Hlq.out; omega
      obtain ⟨b1, o1, rfl, hc1⟩ := (Hr.out.below Hb.out) k (.int .i64 l[k]) (by simp [zv, hkk])
      obtain ⟨b2, o2, rfl, hc2⟩ := (Hs.out.below Hb.out) k (.int .i64 m[k]) (by simp [zv, hkm])
      have C := join1_still mode l[k] m[k] (H1.out _ (List.getElem_mem hkk)) (H2.out _ (List.getElem_mem hkm)) Hmode.out g wr ((Hb.out.cell (p := ⟨g, 0, none⟩) (cell_lt Hg.out)).trans Hg.out)
      have Ht1 : Hid (zv ((List.zipWith (fun x y => (sumN mode x y).1) l m).take (k + 1)) = zv ((List.zipWith (fun x y => (sumN mode x y).1) l m).take k) ++ [.int .i64 (sumN mode l[k] m[k]).1]) := by
        show _ = _
        rw [List.take_succ_eq_append_getElem (by rw [List.length_zipWith]; omega), zv_snoc, List.getElem_zipWith]
      have Ht2 : Hid (zv ((List.zipWith (fun x y => (sumN mode x y).2) l m).take (k + 1)) = zv ((List.zipWith (fun x y => (sumN mode x y).2) l m).take k) ++ [.int .i64 (sumN mode l[k] m[k]).2]) := by
        show _ = _
        rw [List.take_succ_eq_append_getElem (by rw [List.length_zipWith]; omega), zv_snoc, List.getElem_zipWith]
      generalize l[k] = x at *
      generalize m[k] = y at *
      generalize (sumN mode x y).1 = px at *
      generalize (sumN mode x y).2 = py at *
      have HC := Lib.hid C
      clear C
      have hkq : (k : Int) < q := by have := Hlq.out; omega
      have hb := Hb.out
      have hsz := hb.size
      go_wp2_with fail
      refine HC.out.mono ?_
      rintro e w3 ⟨rfl, rfl⟩
      go_wp2_with (first | (at_builtin; refine app1o (w0 := w) rfl _ _ 22 rfl Try.underlying22 info_int rfl (by decide) rfl Hu.out (Nat.le_refl _) hsz hb rfl rfl (one_int _ _) (by omega) (by unfold maxLen; omega) ?_; intro u1 w5 own1 hb1 hs1 hgr1 hat1; have hk1 := row_kept (v := u6) (v' := u1) Hv.out Hap.out hgr1 hat1; have Hk1 := Lib.hid hk1.1; have Hap1 := Lib.hid hk1.2; have Hown1 := Lib.hid own1; clear hk1 hgr1 hat1 own1) | (at_builtin; refine app1o (w0 := w) rfl _ _ 22 rfl Try.underlying22 info_int rfl (by decide) rfl Hk1.out (Nat.le_refl _) hs1 hb1 rfl rfl (one_int _ _) (by omega) (by unfold maxLen; omega) ?_; intro v1 w6 own2 hb2 hs2 hgr2 hat2; have hk2 := row_kept (v := u7) (v' := v1) Hown1.out (apart_symm Hap1.out) hgr2 hat2; have Hk2 := Lib.hid hk2.1; have Hap2 := Lib.hid (apart_symm hk2.2); have Hown2 := Lib.hid own2; clear hk2 hgr2 hat2 own2))
      go_roundw
      case rel =>
        refine ⟨k + 1, by omega, by go_num, hb2, ?_, ?_, Hap2⟩
        · rw [Ht1.out]; exact Hk2.out
        · rw [Ht2.out]; exact Hown2.out
      case measure => simp [intOf] <;> omega
    · obtain rfl : k = l.length := by omega
      obtain ⟨A1, c1, rfl, hc1, hr1⟩ := own_rd Hu.out
      obtain ⟨A2, c2, rfl, hc2, hr2⟩ := own_rd Hv.out
      have HR1 := Lib.hid hr1
      have HR2 := Lib.hid hr2
      have L1 : Hid ((List.zipWith (fun x y => (sumN mode x y).1) l m).take l.length = List.zipWith (fun x y => (sumN mode x y).1) l m) := List.take_of_length_le (by rw [List.length_zipWith]; omega)
      have L2 : Hid ((List.zipWith (fun x y => (sumN mode x y).2) l m).take l.length = List.zipWith (fun x y => (sumN mode x y).2) l m) := List.take_of_length_le (by rw [List.length_zipWith]; omega)
      clear hr1 hr2 Hu Hv Hap
      go_wp2_with fail
      go_ret3
      refine ⟨_, _, _, _, rfl, ?_, ?_, Hb.out⟩
      · rw [← L1.out]; exact HR1
      · rw [← L2.out]; exact HR2

end Go.Proofs.Ytpjicibngdlhbaa
