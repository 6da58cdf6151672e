/-
  jetsamref08.Make, where it refuses; jetsamlaw08.HeaderMakes: its walk.
-/
import Derived.Test.YtgohfbfdhdepnaaDoorRMake08
import Derived.Test.YtgohfbfdhdepnaaDoorRChk08
import Derived.Test.YtgohfbfdhdepnaaDoorAw08
namespace Go.Proofs.YtgohfbfdhdepnaaDoor
open Go.RowKit

theorem RMake_bad (V : Bool) (n b m rate chans depth : Int) (hbad : badM b rate depth) (w : World) :
    Calls Tryd.prog 16 #[.bool V, .int .i64 n, .int .i64 b, .int .i64 m, .agg #[.int .i64 rate, .int .i64 chans, .int .i64 depth]] w fun e w' => e = .returned (.tuple #[Hd.zero.val, .int .i64 10]) ∧ Below w.heap.size w w' := by
  have HR : Hid (HrAt ((w.alloc (.cells #[.int .i64 rate, .int .i64 chans, .int .i64 depth] 38)).alloc (.cells Hd.zero.cells 26)) (w.heap.size + 1) Hd.zero) := by
    have h := heap_alloc_last (w.alloc (.cells #[.int .i64 rate, .int .i64 chans, .int .i64 depth] 38)) (.cells Hd.zero.cells 26)
    rw [World.size_alloc] at h
    exact h
  have Hb : Hid (Below w.heap.size w ((w.alloc (.cells #[.int .i64 rate, .int .i64 chans, .int .i64 depth] 38)).alloc (.cells Hd.zero.cells 26))) := bal (bal (Below.refl _ _) _) _
  by_cases h1 : b < 1
  · clear hbad
    go_enter Tryd.func16, Tryd.ntmps16
    go_wp2_with fail
    exact bodyPost_ret (results_row_tmp Tryd.results16 _ _ _ rfl rfl HR.out Tryd.underlying26 rfl (by kernel_rfl)) rfl ⟨rfl, Hb.out⟩
  by_cases h2 : b > 65535
  · clear hbad
    go_enter Tryd.func16, Tryd.ntmps16
    go_wp2_with fail
    exact bodyPost_ret (results_row_tmp Tryd.results16 _ _ _ rfl rfl HR.out Tryd.underlying26 rfl (by kernel_rfl)) rfl ⟨rfl, Hb.out⟩
  by_cases h3 : rate < 0
  · clear hbad
    go_enter Tryd.func16, Tryd.ntmps16
    go_wp2_with fail
    exact bodyPost_ret (results_row_tmp Tryd.results16 _ _ _ rfl rfl HR.out Tryd.underlying26 rfl (by kernel_rfl)) rfl ⟨rfl, Hb.out⟩
  by_cases h4 : rate > 1048575
  · clear hbad
    go_enter Tryd.func16, Tryd.ntmps16
    go_wp2_with fail
    exact bodyPost_ret (results_row_tmp Tryd.results16 _ _ _ rfl rfl HR.out Tryd.underlying26 rfl (by kernel_rfl)) rfl ⟨rfl, Hb.out⟩
  by_cases h5 : depth < 4
  · clear hbad
    go_enter Tryd.func16, Tryd.ntmps16
    go_wp2_with fail
    exact bodyPost_ret (results_row_tmp Tryd.results16 _ _ _ rfl rfl HR.out Tryd.underlying26 rfl (by kernel_rfl)) rfl ⟨rfl, Hb.out⟩
  by_cases h6 : depth > 32
  · clear hbad
    go_enter Tryd.func16, Tryd.ntmps16
    go_wp2_with fail
    exact bodyPost_ret (results_row_tmp Tryd.results16 _ _ _ rfl rfl HR.out Tryd.underlying26 rfl (by kernel_rfl)) rfl ⟨rfl, Hb.out⟩
  exact absurd hbad (by unfold badM; omega)

theorem RMake_ch (V : Bool) (n b m rate chans depth : Int) (hbad : ¬ badM b rate depth) (hch : chanM m chans ≠ 0) (w : World) :
    Calls Tryd.prog 16 #[.bool V, .int .i64 n, .int .i64 b, .int .i64 m, .agg #[.int .i64 rate, .int .i64 chans, .int .i64 depth]] w fun e w' => e = .returned (.tuple #[Hd.zero.val, .int .i64 (chanM m chans)]) ∧ Below w.heap.size w w' := by
  have HR : Hid (HrAt ((w.alloc (.cells #[.int .i64 rate, .int .i64 chans, .int .i64 depth] 38)).alloc (.cells Hd.zero.cells 26)) (w.heap.size + 1) Hd.zero) := by
    have h := heap_alloc_last (w.alloc (.cells #[.int .i64 rate, .int .i64 chans, .int .i64 depth] 38)) (.cells Hd.zero.cells 26)
    rw [World.size_alloc] at h
    exact h
  have Hb : Hid (Below w.heap.size w ((w.alloc (.cells #[.int .i64 rate, .int .i64 chans, .int .i64 depth] 38)).alloc (.cells Hd.zero.cells 26))) := bal (bal (Below.refl _ _) _) _
  have hbad' : ¬ b < 1 ∧ ¬ 65535 < b ∧ ¬ rate < 0 ∧ ¬ 1048575 < rate ∧ ¬ depth < 4 ∧ ¬ 32 < depth := by unfold badM at hbad; omega
  obtain ⟨h1, h2, h3, h4, h5, h6⟩ := hbad'
  have h2' : ¬ b > 65535 := h2
  have h4' : ¬ rate > 1048575 := h4
  have h6' : ¬ depth > 32 := h6
  have HE : Hid (chanM m chans = fstE [chE m, if (chN m != chans) then (22 : Int) else 0]) := rfl
  generalize chanM m chans = E at *
  clear hbad h2 h4 h6
  by_cases m0 : m < 0
  · have e1 : chE m = 13 := if_pos (.inl m0)
    have hE : E = 13 := by rw [HE.out, e1]; rfl
    subst hE
    clear HE hch e1
    go_enter Tryd.func16, Tryd.ntmps16
    go_wp2_with fail
    exact bodyPost_ret (results_row_tmp Tryd.results16 _ _ _ rfl rfl HR.out Tryd.underlying26 rfl (by kernel_rfl)) rfl ⟨rfl, Hb.out⟩
  by_cases m10 : m > 10
  · have e1 : chE m = 13 := if_pos (.inr m10)
    have hE : E = 13 := by rw [HE.out, e1]; rfl
    subst hE
    clear HE hch e1
    go_enter Tryd.func16, Tryd.ntmps16
    go_wp2_with fail
    exact bodyPost_ret (results_row_tmp Tryd.results16 _ _ _ rfl rfl HR.out Tryd.underlying26 rfl (by kernel_rfl)) rfl ⟨rfl, Hb.out⟩
  have e1 : chE m = 0 := if_neg (by omega)
  have hcn : chN m ≠ chans := by
    intro h
    apply hch
    rw [HE.out, e1, h, bne_self_eq_false]; rfl
  have hE : E = 22 := by
    have : (chN m != chans) = true := by rw [bne_iff_ne]; exact hcn
    rw [HE.out, e1, this]; rfl
  subst hE
  clear HE hch e1
  by_cases m8 : m < 8
  · have e2 : chN m = m + 1 := by rw [chN, if_neg (by omega), if_pos m8]
    have hx : (chans != m + 1) = true := by rw [bne_iff_ne]; rw [e2] at hcn; exact fun h => hcn h.symm
    clear hcn e2
    go_enter Tryd.func16, Tryd.ntmps16
    go_wp2_with fail
    exact bodyPost_ret (results_row_tmp Tryd.results16 _ _ _ rfl rfl HR.out Tryd.underlying26 rfl (by kernel_rfl)) rfl ⟨rfl, Hb.out⟩
  · have e2 : chN m = 2 := by rw [chN, if_neg (by omega), if_neg m8]
    have hx : (chans != 2) = true := by rw [bne_iff_ne]; rw [e2] at hcn; exact fun h => hcn h.symm
    clear hcn e2
    go_enter Tryd.func16, Tryd.ntmps16
    go_wp2_with fail
    exact bodyPost_ret (results_row_tmp Tryd.results16 _ _ _ rfl rfl HR.out Tryd.underlying26 rfl (by kernel_rfl)) rfl ⟨rfl, Hb.out⟩


def refF (b m rate chans depth : Int) : Int := if badM b rate depth then 10 else chanM m chans
theorem Make_all (V : Bool) (n b m rate chans depth : Int) (w : World) (ht : HTabs w) :
    Calls Tryd.prog 15 #[.bool V, .int .i64 n, .int .i64 b, .int .i64 m, .agg #[.int .i64 rate, .int .i64 chans, .int .i64 depth]] w fun e w' => e = .returned (.tuple #[(mkR V n b m rate chans depth).val, .int .i64 (mkE V n b m rate chans depth)]) ∧ Below w.heap.size w w' := by
  by_cases hb : badM b rate depth
  · have e1 : mkE V n b m rate chans depth = 10 := if_pos hb
    have e2 : mkR V n b m rate chans depth = Hd.zero := if_neg (by rw [e1]; decide)
    rw [e1, e2]
    exact Make_bad V n b m rate chans depth hb w
  · exact Make_any V n b m rate chans depth hb w ht
theorem RMake_all (V : Bool) (n b m rate chans depth : Int) (w : World) :
    Calls Tryd.prog 16 #[.bool V, .int .i64 n, .int .i64 b, .int .i64 m, .agg #[.int .i64 rate, .int .i64 chans, .int .i64 depth]] w fun e w' => e = .returned (.tuple #[(if refF b m rate chans depth = 0 then mkH V n b m rate depth else Hd.zero).val, .int .i64 (refF b m rate chans depth)]) ∧ Below w.heap.size w w' := by
  by_cases hb : badM b rate depth
  · have e1 : refF b m rate chans depth = 10 := if_pos hb
    rw [e1, if_neg (by decide)]
    exact RMake_bad V n b m rate chans depth hb w
  · have e1 : refF b m rate chans depth = chanM m chans := if_neg hb
    rw [e1]
    by_cases hc : chanM m chans = 0
    · rw [if_pos hc, hc]
      exact RMake_ok V n b m rate chans depth hb hc w
    · rw [if_neg hc]
      exact RMake_ch V n b m rate chans depth hb hc w
theorem makes_eq (V : Bool) (n b m rate chans depth : Int) : mkE V n b m rate chans depth = if refF b m rate chans depth = 0 then chkE (mkH V n b m rate depth) else refF b m rate chans depth := by
  unfold mkE refF
  by_cases hb : badM b rate depth
  · rw [if_pos hb, if_pos hb, if_neg (by decide)]
  · rw [if_neg hb, if_neg hb]
theorem RChk_any (h : Hd) (w : World) : Calls Tryd.prog 8 #[h.val] w fun e w' => e = .returned (.int .i64 (chkE h)) ∧ Below w.heap.size w w' := by
  rw [← chk_ref]
  cases hb : rBad h with
  | true =>
    have e : rE h = 13 := by rw [rE, if_pos hb]
    rw [e]
    exact RCheck_bad h hb w
  | false => exact RCheck_any h hb w
set_option maxHeartbeats 1000000 in
theorem Plain_any (h : Hd) (w : World) : Calls Tryd.prog 9 #[h.val] w fun e w' => e = .returned h.val ∧ Below w.heap.size w w' := by
  obtain ⟨V, bc, rc, m, dc, n, b, r, d⟩ := h
  simp only [Hd.val]
  go_enter Tryd.func9, Tryd.ntmps9
  go_wp2_with fail
  have hB : ((w.alloc (.cells (Hd.mk V bc rc m dc n b r d).cells 23)).alloc (.cells (Hd.mk V bc rc m dc n b r d).cells 26)).heap[w.heap.size + 1]? = some (.cells (Hd.mk V bc rc m dc n b r d).cells 26 (0, 0)) := by
    have h := heap_alloc_last (w.alloc (.cells (Hd.mk V bc rc m dc n b r d).cells 23)) (.cells (Hd.mk V bc rc m dc n b r d).cells 26)
    rw [World.size_alloc] at h
    exact h
  exact bodyPost_ret (results_cell_row (cs := (Hd.mk V bc rc m dc n b r d).cells) (t := 26) (fr := (0, 0)) (g := w.heap.size + 1) Tryd.results9 _ _ _ rfl hB Tryd.underlying26 rfl (by kernel_rfl)) rfl ⟨rfl, by repeat (first | exact Below.refl _ _ | assumption | refine below_drewN ?_ _ | refine Below.drew ?_ | refine Below.alloc ?_ (Nat.le_refl _) _ | refine bal ?_ _ | refine bnext ?_ (by assumption))⟩

set_option maxRecDepth 100000 in
set_option maxHeartbeats 16000000 in
theorem makes_walk (V : Bool) (n b m rate chans depth : Int) (w : World) (ht : HTabs w) :
    Calls Tryd.prog 4 #[.bool V, .agg #[.int .i64 n, .int .i64 b, .int .i64 m], .agg #[.int .i64 rate, .int .i64 chans, .int .i64 depth]] w fun e w' => e = .returned (.bool true) ∧ Below w.heap.size w w' := by
  have HA := Lib.hid (fun W (hb : Below w.heap.size w W) => awake_any W (ht.below hb))
  have HMk := Lib.hid (fun W (hb : Below w.heap.size w W) => Make_all V n b m rate chans depth W (ht.below hb))
  have HRm := Lib.hid (fun W => RMake_all V n b m rate chans depth W)
  have HC := Lib.hid (fun W => Channels_any m W)
  have HP := Lib.hid (fun (h : Hd) W => Plain_any h W)
  have hEq := makes_eq V n b m rate chans depth
  have hR0 : mkE V n b m rate chans depth = 0 → mkR V n b m rate chans depth = mkH V n b m rate depth := fun h => if_pos h
  have hR1 : mkE V n b m rate chans depth ≠ 0 → mkR V n b m rate chans depth = Hd.zero := fun h => if_neg h
  have hCk := fun W => RChk_any (mkH V n b m rate depth) W
  obtain ⟨F, hF⟩ : ∃ F, refF b m rate chans depth = F := ⟨_, rfl⟩
  rw [hF] at HRm hEq
  obtain ⟨X, hX⟩ : ∃ X, (if F = 0 then mkH V n b m rate depth else Hd.zero) = X := ⟨_, rfl⟩
  rw [hX] at HRm
  obtain ⟨MR, hMR⟩ : ∃ MR, mkR V n b m rate chans depth = MR := ⟨_, rfl⟩
  obtain ⟨E, hE⟩ : ∃ E, mkE V n b m rate chans depth = E := ⟨_, rfl⟩
  rw [hMR, hE] at HMk
  rw [hE] at hEq hR0 hR1
  rw [hMR] at hR0 hR1
  have HF1 : Hid (F ≠ 0 → E = F ∧ MR = Hd.zero) := fun h => ⟨by rw [hEq, if_neg h], hR1 (by rw [hEq, if_neg h]; exact h)⟩
  have HF0 : Hid (F = 0 → (E ≠ 0 → MR = Hd.zero) ∧ (E = 0 → MR = X) ∧ ∀ W, Calls Tryd.prog 8 #[X.val] W fun e w' => e = .returned (.int .i64 E) ∧ Below W.heap.size W w') := fun h => by
    have hx : X = mkH V n b m rate depth := by rw [← hX, if_pos h]
    refine ⟨hR1, fun h0 => by rw [hx]; exact hR0 h0, fun W => ?_⟩
    have h1 := hCk W
    rw [← hx] at h1
    rw [hEq, if_pos h, ← hx]
    exact h1
  have Hch : Hid ((m < 0 ∨ 10 < m → chN m = 0 ∧ chE m = 13) ∧ (¬ (m < 0 ∨ 10 < m) → chE m = 0 ∧ (m < 8 → chN m = m + 1) ∧ (¬ m < 8 → chN m = 2))) := by
    refine ⟨fun h => ⟨if_pos h, if_pos h⟩, fun h => ⟨if_neg h, fun h8 => ?_, fun h8 => ?_⟩⟩
    · rw [chN, if_neg h, if_pos h8]
    · rw [chN, if_neg h, if_neg h8]
  clear hF hX hMR hE hEq hR0 hR1 hCk
  generalize chN m = cn at *
  generalize chE m = ce at *
  obtain ⟨V1, bc1, rc1, m1, dc1, n1, b1, r1, d1⟩ := MR
  obtain ⟨V2, bc2, rc2, m2, dc2, n2, b2, r2, d2⟩ := X
  simp only [Hd.val] at HMk HRm HF0
  obtain ⟨w2, hw2⟩ : ∃ w2, (w.alloc (.cells #[.int .i64 n, .int .i64 b, .int .i64 m] 36)).alloc (.cells #[.int .i64 rate, .int .i64 chans, .int .i64 depth] 38) = w2 := ⟨_, rfl⟩
  have ha2 : w2.heap[w.heap.size]? = some (.cells #[.int .i64 n, .int .i64 b, .int .i64 m] 36 (0, 0)) := by rw [← hw2]; exact hrow_alloc (heap_alloc_last w _) _
  have hp2 : w2.heap[w.heap.size + 1]? = some (.cells #[.int .i64 rate, .int .i64 chans, .int .i64 depth] 38 (0, 0)) := by
    have h := heap_alloc_last (w.alloc (.cells #[.int .i64 n, .int .i64 b, .int .i64 m] 36)) (.cells #[.int .i64 rate, .int .i64 chans, .int .i64 depth] 38)
    rw [World.size_alloc] at h
    rw [← hw2]
    exact h
  have Hb2 : Hid (Below w.heap.size w w2) := by show Below _ _ _; rw [← hw2]; exact bal (bal (Below.refl _ _) _) _
  have Hw2 := Lib.hid hw2
  clear hw2 ht
  have Ha : Hid (∀ W, Below w2.heap.size w2 W → W.cell? ⟨w.heap.size, 0, none⟩ = some (.int .i64 n) ∧ W.cell? ⟨w.heap.size, 1, none⟩ = some (.int .i64 b) ∧ W.cell? ⟨w.heap.size, 2, none⟩ = some (.int .i64 m) ∧ W.heap[w.heap.size + 1]? = some (.cells #[.int .i64 rate, .int .i64 chans, .int .i64 depth] 38 (0, 0))) := fun W hb => by
    have h := hrow_below ha2 hb
    exact ⟨cell_of_row _ _ _ _ _ _ h, cell_of_row _ _ _ _ _ _ h, cell_of_row _ _ _ _ _ _ h, hrow_below hp2 hb⟩
  clear ha2 hp2
  go_enter Tryd.func4, Tryd.ntmps4
  go_upto_region 1 with fail
  rw [Hw2.out]
  clear Hw2
  obtain ⟨a0, a1, a2, ap⟩ := Ha.out w2 (Below.refl _ _)
  go_wp2_with (refine wpList_load_row rfl 38 _ rfl (w.heap.size + 1) rfl 38 #[.int .i64 rate, .int .i64 chans, .int .i64 depth] (0, 0) _ ap Tryd.underlying38 rfl (by kernel_rfl) ?_)
  refine (HMk.out _ Hb2.out).mono ?_
  rintro e w3 ⟨rfl, hb3⟩
  clear a0 a1 a2 ap HMk
  go_upto_region 2 with fail
  have hb24 : Below w2.heap.size w2 (w3.alloc (.cells #[.bool V1, .int .i64 bc1, .int .i64 rc1, .int .i64 m1, .int .i64 dc1, .int .i64 n1, .int .i64 b1, .int .i64 r1, .int .i64 d1] 23)) := bal hb3 _
  have HH4 : Hid (HdAt (w3.alloc (.cells #[.bool V1, .int .i64 bc1, .int .i64 rc1, .int .i64 m1, .int .i64 dc1, .int .i64 n1, .int .i64 b1, .int .i64 r1, .int .i64 d1] 23)) w3.heap.size ⟨V1, bc1, rc1, m1, dc1, n1, b1, r1, d1⟩) := heap_alloc_last w3 _
  generalize w3.alloc (.cells #[.bool V1, .int .i64 bc1, .int .i64 rc1, .int .i64 m1, .int .i64 dc1, .int .i64 n1, .int .i64 b1, .int .i64 r1, .int .i64 d1] 23) = w4 at *
  generalize w3.heap.size = B1 at *
  obtain ⟨a0, a1, a2, ap⟩ := Ha.out w4 hb24
  have Hb24 := Lib.hid hb24
  clear hb24 hb3
  go_wp2_with (refine wpList_load_row rfl 38 _ rfl (w.heap.size + 1) rfl 38 #[.int .i64 rate, .int .i64 chans, .int .i64 depth] (0, 0) _ ap Tryd.underlying38 rfl (by kernel_rfl) ?_)
  refine (HRm.out _).mono ?_
  rintro e w5 ⟨rfl, hb5⟩
  clear a0 a1 a2 ap HRm
  go_upto_region 3 with fail
  have hb26 : Below w2.heap.size w2 (w5.alloc (.cells #[.bool V2, .int .i64 bc2, .int .i64 rc2, .int .i64 m2, .int .i64 dc2, .int .i64 n2, .int .i64 b2, .int .i64 r2, .int .i64 d2] 26)) := bal (bnext Hb24.out hb5) _
  have HH6 : Hid (HdAt (w5.alloc (.cells #[.bool V2, .int .i64 bc2, .int .i64 rc2, .int .i64 m2, .int .i64 dc2, .int .i64 n2, .int .i64 b2, .int .i64 r2, .int .i64 d2] 26)) B1 ⟨V1, bc1, rc1, m1, dc1, n1, b1, r1, d1⟩) := HdAt.below HH4.out (bal hb5 _)
  have HX6 : Hid (HrAt (w5.alloc (.cells #[.bool V2, .int .i64 bc2, .int .i64 rc2, .int .i64 m2, .int .i64 dc2, .int .i64 n2, .int .i64 b2, .int .i64 r2, .int .i64 d2] 26)) w5.heap.size ⟨V2, bc2, rc2, m2, dc2, n2, b2, r2, d2⟩) := heap_alloc_last w5 _
  generalize w5.alloc (.cells #[.bool V2, .int .i64 bc2, .int .i64 rc2, .int .i64 m2, .int .i64 dc2, .int .i64 n2, .int .i64 b2, .int .i64 r2, .int .i64 d2] 26) = w6 at *
  generalize w5.heap.size = B2 at *
  obtain ⟨a0, a1, a2, ap⟩ := Ha.out w6 hb26
  have Hb6 := Lib.hid (bnext Hb2.out hb26)
  clear hb26 hb5 HH4 Hb24 a0 a1 ap Ha Hb2
  go_wp2_with fail
  refine (HC.out _).mono ?_
  rintro e w7 ⟨rfl, rfl⟩
  clear HC
  go_upto_region 4 with fail
  obtain ⟨q50, hq50⟩ : ∃ q50 : Bool, (decide (m < 0) || decide (10 < m)) = q50 := ⟨_, rfl⟩
  have Hq50 := Lib.hid hq50
  clear hq50
  go_cut [50] (fun v wx => v = .bool q50 ∧ w7 = wx)
  case first =>
    by_cases m0 : m < 0
    · have e5 : Hid (q50 = true) := by show _ = _; rw [← Hq50.out, decide_eq_true m0]; rfl
      clear Hq50
      go_wp2_with fail
      go_meet
      exact ⟨by rw [e5.out], rfl⟩
    · have e5 : Hid (q50 = decide (m > 10)) := by show _ = _; rw [← Hq50.out, decide_eq_false m0]; rfl
      clear Hq50
      go_wp2_with fail
      go_meet
      exact ⟨by rw [e5.out], rfl⟩
  case rest =>
    obtain ⟨rfl, rfl⟩ := hcut
    go_upto_if 50 with fail
    go_cut [] (fun wx => w7 = wx)
    case first =>
      by_cases hmm : m < 0 ∨ 10 < m
      · obtain ⟨rfl, rfl⟩ := Hch.out.1 hmm
        have e5 : q50 = true := by rw [← Hq50.out]; rcases hmm with h | h <;> simp [h]
        subst e5
        clear Hq50 Hch
        go_wp2_with fail
        go_meet
        rfl
      · obtain ⟨rfl, h8, h9⟩ := Hch.out.2 hmm
        have e5 : q50 = false := by rw [← Hq50.out]; rw [decide_eq_false (by omega), decide_eq_false (by omega)]; rfl
        subst e5
        clear Hq50 Hch
        by_cases m8 : m < 8
        · obtain rfl := h8 m8
          have m7 : decide (m > 7) = false := decide_eq_false (by omega)
          by_cases m1' : m = 1
          · subst m1'
            go_wp2_with fail
            go_meet
            rfl
          · have k1 : (m + 1 != 2) = true := by rw [bne_iff_ne]; omega
            have k2 : (m + 1 != m + 1) = false := bne_self_eq_false _
            go_wp2_with fail
            go_meet
            rfl
        · obtain rfl := h9 (by omega)
          have k1 : (2 != m + 1) = true := by rw [bne_iff_ne]; omega
          have k3 : decide (m < 8) = false := decide_eq_false m8
          go_wp2_with fail
          go_meet
          rfl
    case rest =>
      obtain rfl := hcut
      clear a2 Hch Hq50
      by_cases hF : F = 0
      case neg =>
        obtain ⟨rfl, hz⟩ := HF1.out hF
        simp only [Hd.zero, Hd.mk.injEq] at hz
        obtain ⟨rfl, rfl, rfl, rfl, rfl, rfl, rfl, rfl, rfl⟩ := hz
        have hF' : (E == 0) = false := by rw [beq_eq_false_iff_ne]; exact hF
        have hF2 : (E != 0) = true := by rw [bne_iff_ne]; exact hF
        clear HF0 HF1 HX6 hF
        go_wp2_with (refine wpList_load_row rfl 23 _ rfl B1 rfl 23 #[.bool false, .int .i64 0, .int .i64 0, .int .i64 0, .int .i64 0, .int .i64 0, .int .i64 0, .int .i64 0, .int .i64 0] (0, 0) _ HH6.out Tryd.underlying23 rfl (by kernel_rfl) ?_)
        refine (HA.out _ Hb6.out).mono ?_
        rintro e w9 ⟨rfl, hb9⟩
        have hb10 := bnext Hb6.out hb9
        go_wp2_with fail
        go_ret
        exact ⟨rfl, hb10⟩
      subst hF
      obtain ⟨g1, g2, g3⟩ := HF0.out rfl
      have HCk := Lib.hid g3
      clear HF0 HF1 g3
      go_wp2_with (refine wpList_load_row rfl 26 _ rfl B2 rfl 26 #[.bool V2, .int .i64 bc2, .int .i64 rc2, .int .i64 m2, .int .i64 dc2, .int .i64 n2, .int .i64 b2, .int .i64 r2, .int .i64 d2] (0, 0) _ HX6.out Tryd.underlying26 rfl (by kernel_rfl) ?_)
      refine (HCk.out _).mono ?_
      rintro e w8 ⟨rfl, hb8⟩
      have HH8 := Lib.hid (HdAt.below HH6.out hb8)
      have HX8 := Lib.hid (HrAt.below HX6.out hb8)
      have Hb8 := Lib.hid (bnext Hb6.out hb8)
      clear HCk HH6 HX6 Hb6 hb8
      by_cases hE : E = 0
      case neg =>
        have hz := g1 hE
        simp only [Hd.zero, Hd.mk.injEq] at hz
        obtain ⟨rfl, rfl, rfl, rfl, rfl, rfl, rfl, rfl, rfl⟩ := hz
        have hF2 : (E != 0) = true := by rw [bne_iff_ne]; exact hE
        clear g1 g2 HX8 hE
        go_wp2_with (refine wpList_load_row rfl 23 _ rfl B1 rfl 23 #[.bool false, .int .i64 0, .int .i64 0, .int .i64 0, .int .i64 0, .int .i64 0, .int .i64 0, .int .i64 0, .int .i64 0] (0, 0) _ HH8.out Tryd.underlying23 rfl (by kernel_rfl) ?_)
        refine (HA.out _ Hb8.out).mono ?_
        rintro e w9 ⟨rfl, hb9⟩
        have hb10 := bnext Hb8.out hb9
        go_wp2_with fail
        go_ret
        exact ⟨rfl, hb10⟩
      subst hE
      have hz := g2 rfl
      simp only [Hd.mk.injEq] at hz
      obtain ⟨rfl, rfl, rfl, rfl, rfl, rfl, rfl, rfl, rfl⟩ := hz
      clear g1 g2
      go_upto_region 13 with fail
      refine wp_region_specs [
        Spec.val (.agg #[.bool V1, .int .i64 bc1, .int .i64 rc1, .int .i64 m1, .int .i64 dc1, .int .i64 n1, .int .i64 b1, .int .i64 r1, .int .i64 d1]),
        Spec.val (.agg #[.bool V1, .int .i64 bc1, .int .i64 rc1, .int .i64 m1, .int .i64 dc1, .int .i64 n1, .int .i64 b1, .int .i64 r1, .int .i64 d1]),
        Spec.val (.agg #[.bool V1, .int .i64 bc1, .int .i64 rc1, .int .i64 m1, .int .i64 dc1, .int .i64 n1, .int .i64 b1, .int .i64 r1, .int .i64 d1]),
        Spec.val (.bool true),
        Spec.val (.bool true),
        Spec.val (.int .i64 0),
        Spec.val (.bool true),
        Spec.val (.bool true),
        Spec.val (.bool true),
        Spec.val (.bool true),
        Spec.val (.bool true),
        Spec.val (.bool true)] w8 (by kernel_rfl) (by repeat (first | exact Below.refl _ _ | assumption | refine below_drewN ?_ _ | refine Below.drew ?_ | refine Below.alloc ?_ (Nat.le_refl _) _ | refine bal ?_ _ | refine bnext ?_ (by assumption))) (n := 108) rfl (by decide +kernel) ⟨?_, ?_, ?_, ?_, ?_, ?_, ?_, ?_, ?_, ?_, ?_, ?_, trivial⟩ ?_
      · intro ac wd hJ hfr hdep
        have s7 : ac.tmps.getD 7 undef = .pointer (some ⟨B1, 0, none⟩) := (hfr 7 (by decide)).trans rfl
        have s7' := slot' s7
        clear hfr hdep
        refine if_wanted rfl (fun Q => op_any (fun K hK => ?_))
        exact wp_load_row 23 _ rfl B1 s7 23 _ (0, 0) _ (HH8.out.below hJ) Tryd.underlying23 rfl (by kernel_rfl) (hK _ _ rfl hJ (Below.refl _ _))
      · intro ac wd hJ hfr hdep
        have s97 : ac.tmps.getD 97 undef = .agg #[.bool V1, .int .i64 bc1, .int .i64 rc1, .int .i64 m1, .int .i64 dc1, .int .i64 n1, .int .i64 b1, .int .i64 r1, .int .i64 d1] := hdep 0 _ 97 (by decide) rfl rfl
        have s97' := slot' s97
        clear hfr hdep
        refine if_wanted rfl (fun Q => op_any (fun K hK => ?_))
        go_simp
        refine (HP.out ⟨V1, bc1, rc1, m1, dc1, n1, b1, r1, d1⟩ _).mono ?_
        rintro e wz ⟨rfl, hbz⟩
        exact hK _ _ rfl (bnext hJ hbz) hbz
      · intro ac wd hJ hfr hdep
        have s9 : ac.tmps.getD 9 undef = .pointer (some ⟨B2, 0, none⟩) := (hfr 9 (by decide)).trans rfl
        have s9' := slot' s9
        clear hfr hdep
        refine if_wanted rfl (fun Q => op_any (fun K hK => ?_))
        exact wp_load_row 26 _ rfl B2 s9 26 _ (0, 0) _ (HX8.out.below hJ) Tryd.underlying26 rfl (by kernel_rfl) (hK _ _ rfl hJ (Below.refl _ _))
      · intro ac wd hJ hfr hdep
        have s98 : ac.tmps.getD 98 undef = .agg #[.bool V1, .int .i64 bc1, .int .i64 rc1, .int .i64 m1, .int .i64 dc1, .int .i64 n1, .int .i64 b1, .int .i64 r1, .int .i64 d1] := hdep 1 _ 98 (by decide) rfl rfl
        have s99 : ac.tmps.getD 99 undef = .agg #[.bool V1, .int .i64 bc1, .int .i64 rc1, .int .i64 m1, .int .i64 dc1, .int .i64 n1, .int .i64 b1, .int .i64 r1, .int .i64 d1] := hdep 2 _ 99 (by decide) rfl rfl
        have s98' := slot' s98
        have s99' := slot' s99
        clear hfr hdep
        refine if_wanted rfl (fun Q => op_any (fun K hK => ?_))
        go_simp
        exact hK _ _ rfl hJ (Below.refl _ _)
      · intro ac wd hJ hfr hdep
        have s100 : ac.tmps.getD 100 undef = .bool true := hdep 3 _ 100 (by decide) rfl rfl
        have s100' := slot' s100
        clear hfr hdep
        refine if_wanted rfl (fun Q => op_any (fun K hK => ?_))
        go_simp
        exact hK _ _ rfl hJ (Below.refl _ _)
      · intro ac wd hJ hfr hdep
        have sg : ac.tmps.getD 101 undef = .bool true := hdep 4 _ 101 (by decide) rfl rfl
        have s8 : ac.tmps.getD 8 undef = .int .i64 0 := (hfr 8 (by decide)).trans rfl
        have s8' := slot' s8
        clear hfr hdep
        refine if_wanted (wanted_yes rfl rfl rfl sg) (fun Q => op_any (fun K hK => ?_))
        go_simp
        exact hK _ _ rfl hJ (Below.refl _ _)
      · intro ac wd hJ hfr hdep
        have sg : ac.tmps.getD 101 undef = .bool true := hdep 4 _ 101 (by decide) rfl rfl
        have s102 : ac.tmps.getD 102 undef = .int .i64 0 := hdep 5 _ 102 (by decide) rfl rfl
        have s102' := slot' s102
        clear hfr hdep
        refine if_wanted (wanted_yes rfl rfl rfl sg) (fun Q => op_any (fun K hK => ?_))
        go_simp
        exact hK _ _ rfl hJ (Below.refl _ _)
      · intro ac wd hJ hfr hdep
        have s101 : ac.tmps.getD 101 undef = .bool true := hdep 4 _ 101 (by decide) rfl rfl
        have s103 : ac.tmps.getD 103 undef = .bool true := hdep 6 _ 103 (by decide) rfl rfl
        have s101' := slot' s101
        have s103' := slot' s103
        clear hfr hdep
        refine if_wanted rfl (fun Q => op_any (fun K hK => ?_))
        go_simp
        exact hK _ _ rfl hJ (Below.refl _ _)
      · intro ac wd hJ hfr hdep
        have s104 : ac.tmps.getD 104 undef = .bool true := hdep 7 _ 104 (by decide) rfl rfl
        have s104' := slot' s104
        clear hfr hdep
        refine if_wanted rfl (fun Q => op_any (fun K hK => ?_))
        go_simp
        exact hK _ _ rfl hJ (Below.refl _ _)
      · intro ac wd hJ hfr hdep
        have sg : ac.tmps.getD 105 undef = .bool true := hdep 8 _ 105 (by decide) rfl rfl
        clear hfr hdep
        refine if_wanted (wanted_yes rfl rfl rfl sg) (fun Q => op_any (fun K hK => ?_))
        go_simp
        refine (HA.out _ (bnext Hb8.out hJ)).mono ?_
        rintro e wz ⟨rfl, hbz⟩
        exact hK _ _ rfl (bnext hJ hbz) hbz
      · intro ac wd hJ hfr hdep
        have s105 : ac.tmps.getD 105 undef = .bool true := hdep 8 _ 105 (by decide) rfl rfl
        have s106 : ac.tmps.getD 106 undef = .bool true := hdep 9 _ 106 (by decide) rfl rfl
        have s105' := slot' s105
        have s106' := slot' s106
        clear hfr hdep
        refine if_wanted rfl (fun Q => op_any (fun K hK => ?_))
        go_simp
        exact hK _ _ rfl hJ (Below.refl _ _)
      · intro ac wd hJ hfr hdep
        have s107 : ac.tmps.getD 107 undef = .bool true := hdep 10 _ 107 (by decide) rfl rfl
        have s107' := slot' s107
        clear hfr hdep
        refine if_wanted rfl (fun Q => op_any (fun K hK => ?_))
        go_simp
        exact hK _ _ rfl hJ (Below.refl _ _)
      intro f w9 hJ9 hR
      have e0 : f 0 = .agg #[.bool V1, .int .i64 bc1, .int .i64 rc1, .int .i64 m1, .int .i64 dc1, .int .i64 n1, .int .i64 b1, .int .i64 r1, .int .i64 d1] := hR 0 (by decide)
      have e1 : f 1 = .agg #[.bool V1, .int .i64 bc1, .int .i64 rc1, .int .i64 m1, .int .i64 dc1, .int .i64 n1, .int .i64 b1, .int .i64 r1, .int .i64 d1] := hR 1 (by decide)
      have e2 : f 2 = .agg #[.bool V1, .int .i64 bc1, .int .i64 rc1, .int .i64 m1, .int .i64 dc1, .int .i64 n1, .int .i64 b1, .int .i64 r1, .int .i64 d1] := hR 2 (by decide)
      have e3 : f 3 = .bool true := hR 3 (by decide)
      have e4 : f 4 = .bool true := hR 4 (by decide)
      have e5 : f 5 = .int .i64 0 := hR 5 (by decide)
      have e6 : f 6 = .bool true := hR 6 (by decide)
      have e7 : f 7 = .bool true := hR 7 (by decide)
      have e8 : f 8 = .bool true := hR 8 (by decide)
      have e9 : f 9 = .bool true := hR 9 (by decide)
      have e10 : f 10 = .bool true := hR 10 (by decide)
      have e11 : f 11 = .bool true := hR 11 (by decide)
      clear hR
      simp only [finA, Act.put, List.setIfInBounds_toArray, List.set_cons_succ, List.set_cons_zero, Nat.reduceAdd, e0, e1, e2, e3, e4, e5, e6, e7, e8, e9, e10, e11]
      clear e0 e1 e2 e3 e4 e5 e6 e7 e8 e9 e10 e11
      have Hb9 := Lib.hid (bnext Hb8.out hJ9)
      clear hJ9
      go_wp2_with fail
      go_ret
      exact ⟨rfl, Hb9.out⟩
end Go.Proofs.YtgohfbfdhdepnaaDoor
