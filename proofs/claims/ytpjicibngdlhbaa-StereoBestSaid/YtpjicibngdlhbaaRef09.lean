/-
  jetsamlaw01.Ints, jetsamref09.Wrong, half, Two; jetsamlaw09.awake.
-/
import Derived.Test.YtpjicibngdlhbaaPart2
namespace Go.Proofs.Ytpjicibngdlhbaa
open Go.RowKit

set_option maxHeartbeats 800000 in
theorem ints_any (l m : List Int) (A B : Option Addr) (c d : Nat) (w : World) (hl : Rd w A (zv l)) (hm : Rd w B (zv m)) (h63 : l.length < 9223372036854775807) :
    Calls Try.prog 16 #[.slice A l.length c, .slice B m.length d] w fun e w' => e = .returned (.bool (decide (l = m))) ∧ Below w.heap.size w w' := by
  have Hl := Lib.hid hl; clear hl
  have Hm := Lib.hid hm; clear hm
  by_cases hlen : l.length = m.length
  · have hx : ((l.length : Int) != (m.length : Int)) = false := by rw [bne_eq_false_iff_eq]; omega
    have Hlen := Lib.hid hlen
    clear hlen
    go_enter Try.func16, Try.ntmps16
    go_wp2_with fail
    go_loopw [5] (fun i wr => ∃ k : Nat, k ≤ l.length ∧ i = .int .i64 k ∧ Below w.heap.size w wr ∧ Hid (l.take k = m.take k)) (fun i _ => l.length - (intOf i).toNat)
    case atStart => exact ⟨0, by omega, rfl, Below.refl _ _, by simp [Hid]⟩
    case round =>
      obtain ⟨k, hk, rfl, hb, Ht⟩ := hrel
      by_cases hkk : k < l.length
      · have hkm : k < m.length := by have := Hlen.out; omega
        obtain ⟨b1, o1, rfl, hc1⟩ := (Hl.out.below hb) k (.int .i64 l[k]) (by simp [zv, hkk])
        obtain ⟨b2, o2, rfl, hc2⟩ := (Hm.out.below hb) k (.int .i64 m[k]) (by simp [zv, hkm])
        have hi0 : (0 : Int) ≤ (k : Int) := by omega
        have hi1 : (k : Int) < l.length := by omega
        have hi2 : (k : Int) < m.length := by omega
        have Hs : Hid (l[k] = m[k] → l.take (k + 1) = m.take (k + 1)) := by
          intro h
          rw [List.take_succ_eq_append_getElem hkk, List.take_succ_eq_append_getElem hkm, Ht.out, h]
        have Hn : Hid (l[k] ≠ m[k] → l ≠ m) := by
          intro h e; subst e; exact h rfl
        generalize l[k] = x at *
        generalize m[k] = y at *
        by_cases hxy : x = y
        · have Hxy := Lib.hid hxy
          have hq : (x != y) = false := by rw [bne_eq_false_iff_eq]; exact hxy
          clear hxy
          go_wp2_with fail
          go_quiet (fail)
          go_wp2_with fail
          go_roundw
          case rel => exact ⟨k + 1, by omega, by go_num, by repeat (first | exact Below.refl _ _ | assumption | refine below_drewN ?_ _ | refine Below.drew ?_ | refine Below.alloc ?_ (Nat.le_refl _) _ | refine bal ?_ _ | refine bnext ?_ (by assumption)), Hs.out Hxy.out⟩
          case measure => simp [intOf] <;> omega
        · have Hxy := Lib.hid hxy
          have hq : (x != y) = true := by rw [bne_iff_ne]; exact hxy
          clear hxy
          go_wp2_with fail
          go_quiet (fail)
          go_wp2_with fail
          go_ret
          exact ⟨ret_bool (decide_eq_false (Hn.out Hxy.out)).symm, by repeat (first | exact Below.refl _ _ | assumption | refine below_drewN ?_ _ | refine Below.drew ?_ | refine Below.alloc ?_ (Nat.le_refl _) _ | refine bal ?_ _ | refine bnext ?_ (by assumption))⟩
      · obtain rfl : k = l.length := by omega
        have He : Hid (l = m) := by
          have h := Ht.out
          rw [List.take_of_length_le (Nat.le_refl _), List.take_of_length_le (by rw [Hlen.out]; exact Nat.le_refl _)] at h
          exact h
        go_wp2_with fail
        go_ret
        exact ⟨ret_bool (decide_eq_true He.out).symm, hb⟩
  · have hx : ((l.length : Int) != (m.length : Int)) = true := by rw [bne_iff_ne]; omega
    have Hn : Hid (l ≠ m) := fun e => hlen (by rw [e])
    clear hlen
    go_enter Try.func16, Try.ntmps16
    go_wp2_with fail
    go_ret
    exact ⟨ret_bool (decide_eq_false Hn.out).symm, Below.refl _ _⟩

theorem tdiv2 (n : Int) : n.tdiv 2 = if 0 ≤ n then n / 2 else -((-n) / 2) := by
  split
  · rename_i h; exact Int.tdiv_eq_ediv_of_nonneg h
  · rename_i h
    have h1 : (-n).tdiv 2 = (-n) / 2 := Int.tdiv_eq_ediv_of_nonneg (by omega)
    rw [Int.neg_tdiv] at h1
    omega
theorem half_still (n : Int) (h1 : -2199023255552 ≤ n) (h2 : n ≤ 2199023255552) (w : World) :
    Calls Try.prog 20 #[.int .i64 n] w fun e w' => e = .returned (.int .i64 (n / 2)) ∧ w' = w := by
  by_cases h : n.tdiv 2 * 2 > n
  · have ht := tdiv2 n
    have H : Hid (n / 2 = n.tdiv 2 - 1) := by show _ = _; split at ht <;> omega
    have hb : -2199023255552 ≤ n.tdiv 2 ∧ n.tdiv 2 ≤ 2199023255552 := by split at ht <;> omega
    clear ht
    obtain ⟨q, hq⟩ : ∃ q, n.tdiv 2 = q := ⟨_, rfl⟩
    rw [hq] at h H hb
    go_enter Try.func20, Try.ntmps20
    go_wp2_with fail
    go_ret
    exact ⟨ret_int (by rw [H.out]), rfl⟩
  · have ht := tdiv2 n
    have H : Hid (n / 2 = n.tdiv 2) := by show _ = _; split at ht <;> omega
    have hb : -2199023255552 ≤ n.tdiv 2 ∧ n.tdiv 2 ≤ 2199023255552 := by split at ht <;> omega
    clear ht
    obtain ⟨q, hq⟩ : ∃ q, n.tdiv 2 = q := ⟨_, rfl⟩
    rw [hq] at h H hb
    go_enter Try.func20, Try.ntmps20
    go_wp2_with fail
    go_ret
    exact ⟨ret_int (by rw [H.out]), rfl⟩

theorem two_still (mode x y : Int) (hx : outB x = false) (hy : outB y = false) (w : World) :
    Calls Try.prog 10 #[.int .i64 mode, .int .i64 x, .int .i64 y] w fun e w' => e = .returned (.tuple #[.int .i64 (twoN mode x y).1, .int .i64 (twoN mode x y).2]) ∧ w' = w := by
  obtain ⟨x1, x2⟩ := outB_no hx
  obtain ⟨y1, y2⟩ := outB_no hy
  clear hx hy
  by_cases h8 : mode = 8
  · have H : Hid (twoN mode x y = (x, x - y)) := if_pos h8
    have e8 : (mode == 8) = true := by rw [beq_iff_eq]; exact h8
    clear h8
    go_enter Try.func10, Try.ntmps10
    go_wp2_with fail
    go_ret2
    exact ⟨by rw [H.out]; rfl, rfl⟩
  · have e8 : (mode == 8) = false := by rw [beq_eq_false_iff_ne]; exact h8
    by_cases h9 : mode = 9
    · have H : Hid (twoN mode x y = (x - y, y)) := (if_neg h8).trans (if_pos h9)
      have e9 : (mode == 9) = true := by rw [beq_iff_eq]; exact h9
      clear h8 h9
      go_enter Try.func10, Try.ntmps10
      go_wp2_with fail
      go_ret2
      exact ⟨by rw [H.out]; rfl, rfl⟩
    · have e9 : (mode == 9) = false := by rw [beq_eq_false_iff_ne]; exact h9
      by_cases h10 : mode = 10
      · have H : Hid (twoN mode x y = ((x + y) / 2, x - y)) := (if_neg h8).trans ((if_neg h9).trans (if_pos h10))
        have e10 : (mode == 10) = true := by rw [beq_iff_eq]; exact h10
        have C := Lib.hid (half_still (x + y) (by omega) (by omega) w)
        clear h8 h9 h10
        go_enter Try.func10, Try.ntmps10
        go_wp2_with fail
        refine C.out.mono ?_
        rintro e w1 ⟨rfl, rfl⟩
        go_wp2_with fail
        go_ret2
        exact ⟨by rw [H.out]; rfl, rfl⟩
      · have e10 : (mode == 10) = false := by rw [beq_eq_false_iff_ne]; exact h10
        have H : Hid (twoN mode x y = (x, y)) := (if_neg h8).trans ((if_neg h9).trans (if_neg h10))
        clear h8 h9 h10
        go_enter Try.func10, Try.ntmps10
        go_wp2_with fail
        go_ret2
        exact ⟨by rw [H.out]; rfl, rfl⟩

theorem anyO_take {l : List Int} {k : Nat} (hk : k < l.length) : anyO (l.take (k + 1)) = (anyO (l.take k) || outB l[k]) := by
  unfold anyO
  rw [List.take_succ_eq_append_getElem hk, List.any_append]; simp
theorem anyO_at {l : List Int} {k : Nat} (hk : k < l.length) (h : outB l[k] = true) : anyO l = true := List.any_eq_true.2 ⟨l[k], List.getElem_mem hk, h⟩

set_option maxHeartbeats 1000000 in
theorem refWrong_any (mode : Int) (l m : List Int) (A B : Option Addr) (c d : Nat) (w : World) (hr : Rd w A (zv l)) (hs : Rd w B (zv m)) (hl : l.length < 1000000) (hm : m.length < 1000000) :
    Calls Try.prog 9 #[.int .i64 mode, .slice A l.length c, .slice B m.length d] w fun e w' => e = .returned (.int .i64 (wrongR mode l m)) ∧ w' = w := by
  have Hr := Lib.hid hr; clear hr
  have Hs := Lib.hid hs; clear hs
  by_cases hb : badMode mode = true
  · have HW : Hid (wrongR mode l m = 13) := if_pos hb
    have hx : mode ≠ 1 ∧ (mode < 8 ∨ 10 < mode) := by simpa [badMode] using hb
    have hx1 : (mode != 1) = true := by rw [bne_iff_ne]; exact hx.1
    have hx2 : (mode != 8) = true := by rw [bne_iff_ne]; omega
    have hx3 : (mode != 9) = true := by rw [bne_iff_ne]; omega
    have hx4 : (mode != 10) = true := by rw [bne_iff_ne]; omega
    clear hx hb
    go_enter Try.func9, Try.ntmps9
    go_wp2_with fail
    go_ret
    exact ⟨ret_int (by rw [HW.out]), rfl⟩
  · have hx : mode = 1 ∨ mode = 8 ∨ mode = 9 ∨ mode = 10 := by
      simp [badMode] at hb
      omega
    have HW : Hid (wrongR mode l m = if l.length ≠ m.length then 1 else if anyO l || anyO m then 10 else 0) := if_neg hb
    clear hb
    have Hx := Lib.hid hx
    clear hx
    go_enter Try.func9, Try.ntmps9
    go_upto_region 1 with fail
    go_cut [21] (fun v wx => v = .bool false ∧ w = wx)
    case first =>
      rcases Hx.out with hx | hx | hx | hx
      · have hx1 : (mode != 1) = false := by rw [bne_eq_false_iff_eq]; exact hx
        clear hx
        go_wp2_with fail
        go_meet
        exact ⟨rfl, rfl⟩
      · have hx1 : (mode != 1) = true := by rw [bne_iff_ne]; omega
        have hx2 : (mode != 8) = false := by rw [bne_eq_false_iff_eq]; exact hx
        clear hx
        go_wp2_with fail
        go_meet
        exact ⟨rfl, rfl⟩
      · have hx1 : (mode != 1) = true := by rw [bne_iff_ne]; omega
        have hx2 : (mode != 8) = true := by rw [bne_iff_ne]; omega
        have hx3 : (mode != 9) = false := by rw [bne_eq_false_iff_eq]; exact hx
        clear hx
        go_wp2_with fail
        go_meet
        exact ⟨rfl, rfl⟩
      · have hx1 : (mode != 1) = true := by rw [bne_iff_ne]; omega
        have hx2 : (mode != 8) = true := by rw [bne_iff_ne]; omega
        have hx3 : (mode != 9) = true := by rw [bne_iff_ne]; omega
        have hx4 : (mode != 10) = false := by rw [bne_eq_false_iff_eq]; exact hx
        clear hx
        go_wp2_with fail
        go_meet
        exact ⟨rfl, rfl⟩
    case rest =>
      obtain ⟨rfl, rfl⟩ := hcut
      by_cases hlm : l.length = m.length
      · have HW2 : Hid (wrongR mode l m = if anyO l || anyO m then 10 else 0) := HW.out.trans (if_neg (fun h => h hlm))
        have hll : ((l.length : Int) != (m.length : Int)) = false := by rw [bne_eq_false_iff_eq]; omega
        have Hlm := Lib.hid hlm
        clear hlm HW
        go_wp2_with fail
        go_loopw [7] (fun i wr => ∃ k : Nat, k ≤ l.length ∧ i = .int .i64 k ∧ w = wr ∧ Hid (anyO (l.take k) = false ∧ anyO (m.take k) = false)) (fun i _ => l.length - (intOf i).toNat)
        case atStart => exact ⟨0, by omega, rfl, rfl, rfl, rfl⟩
        case round =>
          obtain ⟨k, hk, rfl, rfl, Ht⟩ := hrel
          by_cases hkk : k < l.length
          · have hkm : k < m.length := by have := Hlm.out; omega
            obtain ⟨b1, o1, rfl, hc1⟩ := Hr.out k (.int .i64 l[k]) (by simp [zv, hkk])
            obtain ⟨b2, o2, rfl, hc2⟩ := Hs.out k (.int .i64 m[k]) (by simp [zv, hkm])
            have Ha : Hid (anyO (l.take (k + 1)) = outB l[k]) := by
              show _ = _
              rw [anyO_take hkk, Ht.out.1, Bool.false_or]
            have Hb : Hid (anyO (m.take (k + 1)) = outB m[k]) := by
              show _ = _
              rw [anyO_take hkm, Ht.out.2, Bool.false_or]
            have Hy : Hid (outB l[k] = true ∨ outB m[k] = true → wrongR mode l m = 10) := by
              intro h
              rw [HW2.out, if_pos]
              rcases h with h | h
              · rw [anyO_at hkk h]; rfl
              · rw [anyO_at hkm h, Bool.or_true]
            generalize l[k] = x at *
            generalize m[k] = y at *
            by_cases g1 : x < -1099511627776
            · have HY : Hid (wrongR mode l m = 10) := Hy.out (.inl (by simp [outB, g1]))
              go_wp2_with fail
              go_ret
              exact ⟨ret_int (by rw [HY.out]), rfl⟩
            by_cases g2 : 1099511627776 < x
            · have HY : Hid (wrongR mode l m = 10) := Hy.out (.inl (by simp [outB, g2]))
              go_wp2_with fail
              go_ret
              exact ⟨ret_int (by rw [HY.out]), rfl⟩
            by_cases g3 : y < -1099511627776
            · have HY : Hid (wrongR mode l m = 10) := Hy.out (.inr (by simp [outB, g3]))
              go_wp2_with fail
              go_ret
              exact ⟨ret_int (by rw [HY.out]), rfl⟩
            by_cases g4 : 1099511627776 < y
            · have HY : Hid (wrongR mode l m = 10) := Hy.out (.inr (by simp [outB, g4]))
              go_wp2_with fail
              go_ret
              exact ⟨ret_int (by rw [HY.out]), rfl⟩
            have Hxy : Hid (outB x = false ∧ outB y = false) := by constructor <;> simp [outB] <;> omega
            go_wp2_with fail
            go_roundw
            case rel => exact ⟨k + 1, by omega, by go_num, by first | rfl | trivial, Ha.out.trans Hxy.out.1, Hb.out.trans Hxy.out.2⟩
            case measure => simp [intOf] <;> omega
          · obtain rfl : k = l.length := by omega
            have HY : Hid (wrongR mode l m = 0) := by
              show _ = _
              have h := Ht.out
              rw [List.take_of_length_le (Nat.le_refl _), List.take_of_length_le (by rw [Hlm.out]; exact Nat.le_refl _)] at h
              rw [HW2.out, h.1, h.2]; rfl
            go_wp2_with fail
            go_ret
            exact ⟨ret_int (by rw [HY.out]), rfl⟩
      · have HW2 : Hid (wrongR mode l m = 1) := HW.out.trans (if_pos hlm)
        have hll : ((l.length : Int) != (m.length : Int)) = true := by rw [bne_iff_ne]; omega
        clear hlm HW
        go_wp2_with fail
        go_ret
        exact ⟨ret_int (by rw [HW2.out]), rfl⟩
end Go.Proofs.Ytpjicibngdlhbaa
