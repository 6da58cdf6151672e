/-
  jetsamref09.Best; StereoBest's walk.
-/
import Derived.Test.YtpjicibngdlhbaaBest09b
namespace Go.Proofs.Ytpjicibngdlhbaa
open Go.RowKit

/-- How many modes are behind the reference's loop at n. -/
def idxN (n : Nat) : Nat := if n ≤ 1 then 0 else if n ≤ 8 then 1 else n - 7
def rst (s : Int → Int) : Nat → Int × Int
  | 0 => (0, -1)
  | k + 1 => cst s (k + 1)
theorem sc_pos {l m : List Int} (mode : Int) (h1 : ∀ x ∈ l, outB x = false) (h2 : ∀ x ∈ m, outB x = false) (hl : l.length ≤ 60) : 0 ≤ sc l m mode ∧ sc l m mode ≤ 263882790666240 := by
  have a := absS_bd (zA_tame mode h1 h2) l.length
  have b := absS_bd (zB_tame mode h1 h2) l.length
  unfold sc
  omega
theorem cst_snd {s : Int → Int} (h : ∀ k, 0 ≤ s (modeAt k)) : ∀ k, 0 ≤ (cst s k).2
  | 0 => by simp [cst]
  | 1 => h 0
  | k + 2 => by
    have ih := cst_snd h (k + 1)
    show 0 ≤ (upd s (cst s (k + 1)) (modeAt (k + 1))).2
    unfold upd; split
    · exact h (k + 1)
    · exact ih

set_option maxHeartbeats 1000000 in
theorem refBest_ok (l m : List Int) (A B : Option Addr) (c d : Nat) (w : World) (hr : Rd w A (zv l)) (hs : Rd w B (zv m)) (hl : l.length ≤ 60) (hm : m.length ≤ 60) (hW : wrongR 1 l m = 0) :
    Calls Try.prog 14 #[.slice A l.length c, .slice B m.length d] w fun e w' => e = .returned (.int .i64 (cst (sc l m) 4).1) ∧ Below w.heap.size w w' := by
  obtain ⟨-, hlm, o1, o2⟩ := wrong_zero hW
  have Hlm := Lib.hid hlm
  have O1 := Lib.hid o1
  have O2 := Lib.hid o2
  have HSP : Hid (∀ mode, 0 ≤ sc l m mode ∧ sc l m mode ≤ 263882790666240) := fun mode => sc_pos mode o1 o2 hl
  have HSN : Hid (∀ k, 0 ≤ (cst (sc l m) k).2) := cst_snd (fun k => (sc_pos _ o1 o2 hl).1)
  clear hlm o1 o2 hW
  have Hr := Lib.hid hr; clear hr
  have Hs := Lib.hid hs; clear hs
  go_enter Try.func14, Try.ntmps14
  go_wp2_with fail
  go_loopw [5, 6, 7] (fun bv sv i wr => ∃ n : Nat, 1 ≤ n ∧ n ≤ 11 ∧ i = .int .i64 n ∧ bv = .int .i64 (rst (sc l m) (idxN n)).1 ∧ sv = .int .i64 (rst (sc l m) (idxN n)).2 ∧ Hid (Below w.heap.size w wr)) (fun _ _ i _ => 11 - (intOf i).toNat)
  case atStart => exact ⟨1, by omega, by omega, rfl, rfl, rfl, Below.refl _ _⟩
  case round =>
    obtain ⟨n, hn1, hn, rfl, rfl, rfl, Hb⟩ := hrel
    obtain ⟨b0, hb0⟩ : ∃ z, (rst (sc l m) (idxN n)).1 = z := ⟨_, rfl⟩
    obtain ⟨s0, hs0⟩ : ∃ z, (rst (sc l m) (idxN n)).2 = z := ⟨_, rfl⟩
    by_cases hskip : 2 ≤ n ∧ n ≤ 7
    · obtain ⟨k1, k2⟩ := hskip
      have Hi : Hid (idxN (n + 1) = idxN n) := by
        show _ = _
        unfold idxN
        (repeat' split) <;> omega
      have HB0 := Lib.hid hb0
      have HS0 := Lib.hid hs0
      rw [hb0, hs0]
      clear hb0 hs0
      go_wp2_with fail
      go_roundw
      case rel => exact ⟨n + 1, by omega, by omega, by go_num, by rw [Hi.out, HB0.out], by rw [Hi.out, HS0.out], Hb⟩
      case measure => simp [intOf] <;> omega
    · by_cases hn11 : n = 11
      · subst hn11
        have h4 : idxN 11 = 4 := by decide
        rw [h4] at hb0 hs0
        rw [h4]
        have HB0 : Hid ((cst (sc l m) 4).1 = b0) := hb0
        rw [hb0, hs0]
        clear hb0 hs0 h4
        go_wp2_with fail
        go_ret
        exact ⟨ret_int (by rw [HB0.out]), Hb.out⟩
      · obtain ⟨k, hk, hmode, hi0, hi1⟩ : ∃ k, k < 4 ∧ (n : Int) = modeAt k ∧ idxN n = k ∧ idxN (n + 1) = k + 1 := by
          have : n = 1 ∨ n = 8 ∨ n = 9 ∨ n = 10 := by omega
          rcases this with rfl | rfl | rfl | rfl
          · exact ⟨0, by omega, rfl, by decide, by decide⟩
          · exact ⟨1, by omega, rfl, by decide, by decide⟩
          · exact ⟨2, by omega, rfl, by decide, by decide⟩
          · exact ⟨3, by omega, rfl, by decide, by decide⟩
        have Hi1 := Lib.hid hi1
        rw [hi0] at hb0 hs0
        rw [hi0]
        have C0 : Hid (k = 0 → cst (sc l m) (k + 1) = (modeAt k, sc l m (modeAt k))) := by rintro rfl; rfl
        have C1 : Hid (0 < k → cst (sc l m) (k + 1) = upd (sc l m) (b0, s0) (modeAt k)) := by
          intro h
          rw [cst_succ _ k h]
          obtain ⟨j, rfl⟩ : ∃ j, k = j + 1 := ⟨k - 1, by omega⟩
          rw [← hb0, ← hs0]; rfl
        have C2 : Hid (0 < k → 0 ≤ s0) := by
          intro h
          obtain ⟨j, rfl⟩ : ∃ j, k = j + 1 := ⟨k - 1, by omega⟩
          rw [← hs0]; exact HSN.out (j + 1)
        have C3 : Hid (k = 0 → s0 < 0) := by rintro rfl; rw [← hs0]; show (-1 : Int) < 0; omega
        have Hup : Hid (∀ c : Int × Int, upd (sc l m) c (modeAt k) = if sc l m (modeAt k) < c.2 then (modeAt k, sc l m (modeAt k)) else c) := fun _ => rfl
        have Hsc : Hid (sc l m (modeAt k) = absS (zA (modeAt k) l m) l.length + absS (zB (modeAt k) l m) l.length) := rfl
        have TA : Hid (tameL (zA (modeAt k) l m)) := zA_tame _ O1.out O2.out
        have TB : Hid (tameL (zB (modeAt k) l m)) := zB_tame _ O1.out O2.out
        have hscb := HSP.out (modeAt k)
        rw [hb0, hs0]
        clear hb0 hs0 hi0 hi1
        rw [← hmode] at C0 C1 Hup Hsc TA TB hscb
        have Hmode := Lib.hid hmode
        clear hmode
        obtain ⟨n0, hn0⟩ : ∃ z, sc l m (n : Int) = z := ⟨_, rfl⟩
        rw [hn0] at C0 Hup Hsc hscb
        clear hn0
        obtain ⟨w1, hw1⟩ : ∃ z, wr = z := ⟨_, rfl⟩
        rw [hw1] at Hb
        rw [hw1]
        clear hw1
        have hns1 : ¬ ((1 : Int) < n ∧ (n : Int) < 8) := by omega
        have hns : (n : Int) ≤ 1 ∨ 8 ≤ (n : Int) := by omega
        have Hns := Lib.hid hns
        have Hskip := Lib.hid hskip
        clear hns hns1 hskip
        go_upto_region 6 with fail
        go_cut [21] (fun v wx => v = .bool false ∧ w1 = wx)
        case first =>
          rcases Hns.out with h | h
          · have h' : ¬ (1 : Int) < n := by omega
            go_wp2_with fail
            go_meet
            exact ⟨rfl, rfl⟩
          · have h' : ¬ (n : Int) < 8 := by omega
            have h'' : (1 : Int) < n := by omega
            go_wp2_with fail
            go_meet
            exact ⟨rfl, rfl⟩
        case rest =>
          obtain ⟨rfl, rfl⟩ := hcut
          go_wp2_with fail
          go_loopw [8, 9] (fun sv i wr2 => ∃ j : Nat, j ≤ l.length ∧ i = .int .i64 j ∧ sv = .int .i64 (absS (zA (n : Int) l m) j + absS (zB (n : Int) l m) j) ∧ Hid (Below w1.heap.size w1 wr2)) (fun _ i _ => l.length - (intOf i).toNat)
          case atStart => exact ⟨0, by omega, rfl, rfl, Below.refl _ _⟩
          case round =>
            obtain ⟨j, hj, rfl, rfl, Hb2⟩ := hrel
            by_cases hjj : j < l.length
            · have hjm : j < m.length := by have := Hlm.out; omega
              have hb2 := bnext Hb.out Hb2.out
              obtain ⟨b1, o1, rfl, hc1⟩ := (Hr.out.below hb2) j (.int .i64 l[j]) (by simp [zv, hjj])
              obtain ⟨b2, o2, rfl, hc2⟩ := (Hs.out.below hb2) j (.int .i64 m[j]) (by simp [zv, hjm])
              have T := Lib.hid (two_still (n : Int) l[j] m[j] (O1.out _ (List.getElem_mem hjj)) (O2.out _ (List.getElem_mem hjm)))
              have ga : (zA (n : Int) l m).getD j 0 = (twoN (n : Int) l[j] m[j]).1 := by
                unfold zA
                rw [List.getD_eq_getElem?_getD, List.getElem?_eq_getElem (by rw [List.length_zipWith]; omega), List.getElem_zipWith]; rfl
              have gb : (zB (n : Int) l m).getD j 0 = (twoN (n : Int) l[j] m[j]).2 := by
                unfold zB
                rw [List.getD_eq_getElem?_getD, List.getElem?_eq_getElem (by rw [List.length_zipWith]; omega), List.getElem_zipWith]; rfl
              have Ha : Hid (absS (zA (n : Int) l m) (j + 1) = absS (zA (n : Int) l m) j + mxA ((zA (n : Int) l m).getD j 0)) := rfl
              have Hb' : Hid (absS (zB (n : Int) l m) (j + 1) = absS (zB (n : Int) l m) j + mxA ((zB (n : Int) l m).getD j 0)) := rfl
              obtain ⟨ta1, ta2⟩ := tame_at TA.out j
              obtain ⟨tb1, tb2⟩ := tame_at TB.out j
              obtain ⟨sa1, sa2⟩ := absS_bd TA.out j
              obtain ⟨sb1, sb2⟩ := absS_bd TB.out j
              obtain ⟨ma1, ma2⟩ := mxA_bd ta1 ta2
              obtain ⟨mb1, mb2⟩ := mxA_bd tb1 tb2
              rw [ga] at Ha ta1 ta2 ma1 ma2
              rw [gb] at Hb' tb1 tb2 mb1 mb2
              clear ga gb
              generalize l[j] = x at *
              generalize m[j] = y at *
              obtain ⟨px, hpx⟩ : ∃ p, (twoN (n : Int) x y).1 = p := ⟨_, rfl⟩
              obtain ⟨py, hpy⟩ : ∃ p, (twoN (n : Int) x y).2 = p := ⟨_, rfl⟩
              rw [hpx] at Ha ta1 ta2 ma1 ma2 T
              rw [hpy] at Hb' tb1 tb2 mb1 mb2 T
              clear hpx hpy
              obtain ⟨va, hva⟩ : ∃ v, (if px < -px then -px else px) = v := ⟨_, rfl⟩
              obtain ⟨vb, hvb⟩ : ∃ v, (if py < -py then -py else py) = v := ⟨_, rfl⟩
              have hma : mxA px = va := hva
              have hmb : mxA py = vb := hvb
              rw [hma] at Ha ma1 ma2
              rw [hmb] at Hb' mb1 mb2
              clear hma hmb
              obtain ⟨qa, hqa⟩ : ∃ z, absS (zA (n : Int) l m) j = z := ⟨_, rfl⟩
              obtain ⟨qb, hqb⟩ : ∃ z, absS (zB (n : Int) l m) j = z := ⟨_, rfl⟩
              rw [hqa] at Ha sa1 sa2 ⊢
              rw [hqb] at Hb' sb1 sb2 ⊢
              clear hqa hqb
              have hj0 : (0 : Int) ≤ (j : Int) := by omega
              have hjl' : (j : Int) < l.length := by omega
              have hjm' : (j : Int) < m.length := by omega
              go_wp2_with fail
              go_quiet (refine Calls.quiet_of_same (T.out _))
              go_wp2_with fail
              go_roundw
              case rel =>
                refine ⟨j + 1, by omega, by go_num, ?_, by show Below _ _ _; have := Hb2.out; repeat (first | exact Below.refl _ _ | assumption | refine below_drewN ?_ _ | refine Below.drew ?_ | refine Below.alloc ?_ (Nat.le_refl _) _ | refine bal ?_ _ | refine bnext ?_ (by assumption))⟩
                rw [Ha.out, Hb'.out]
                congr 1; omega
              case measure => simp [intOf] <;> omega
            · obtain rfl : j = l.length := by omega
              have hb2 : Hid (Below w.heap.size w wr) := bnext Hb.out Hb2.out
              rw [← Hsc.out]
              rcases Nat.eq_zero_or_pos k with hk0 | hk0
              · have hs0' := C3.out hk0
                have C0' := Lib.hid (C0.out hk0)
                go_wp2_with fail
                go_roundw
                case rel => exact ⟨n + 1, by omega, by omega, by go_num, by rw [Hi1.out]; show _ = Value.int .i64 (cst (sc l m) (k + 1)).1; rw [C0'.out], by rw [Hi1.out]; show _ = Value.int .i64 (cst (sc l m) (k + 1)).2; rw [C0'.out], hb2⟩
                case measure => simp [intOf] <;> omega
              · have hs0' : ¬ s0 < 0 := by have := C2.out hk0; omega
                have C1' := Lib.hid (C1.out hk0)
                by_cases hlt : n0 < s0
                · have C4 : Hid (cst (sc l m) (k + 1) = ((n : Int), n0)) := by
                    show _ = _
                    rw [C1'.out, Hup.out]; exact if_pos hlt
                  go_wp2_with fail
                  go_roundw
                  case rel => exact ⟨n + 1, by omega, by omega, by go_num, by rw [Hi1.out]; show _ = Value.int .i64 (cst (sc l m) (k + 1)).1; rw [C4.out], by rw [Hi1.out]; show _ = Value.int .i64 (cst (sc l m) (k + 1)).2; rw [C4.out], hb2⟩
                  case measure => simp [intOf] <;> omega
                · have C4 : Hid (cst (sc l m) (k + 1) = (b0, s0)) := by
                    show _ = _
                    rw [C1'.out, Hup.out]; exact if_neg hlt
                  go_wp2_with fail
                  go_roundw
                  case rel => exact ⟨n + 1, by omega, by omega, by go_num, by rw [Hi1.out]; show _ = Value.int .i64 (cst (sc l m) (k + 1)).1; rw [C4.out], by rw [Hi1.out]; show _ = Value.int .i64 (cst (sc l m) (k + 1)).2; rw [C4.out], hb2⟩
                  case measure => simp [intOf] <;> omega

theorem bestLaw_walk (l m : List Int) (A B : Option Addr) (c d : Nat) (w : World) (hr : Rd w A (zv l)) (hs : Rd w B (zv m)) :
    Calls Try.prog 6 #[.slice A l.length c, .slice B m.length d] w fun e w' => e = .returned (.bool true) ∧ Below w.heap.size w w' := by
  have Hr := Lib.hid hr; clear hr
  have Hs := Lib.hid hs; clear hs
  by_cases h1 : 60 < l.length
  · have h1' : (60 : Int) < l.length := by omega
    go_enter Try.func6, Try.ntmps6
    go_wp2_with fail
    refine (awake_any _).mono ?_
    rintro e w5 ⟨rfl, hb5⟩
    go_wp2_with fail
    go_ret
    exact ⟨rfl, hb5⟩
  have h1' : ¬ (60 : Int) < l.length := by omega
  by_cases h2 : 60 < m.length
  · have h2' : (60 : Int) < m.length := by omega
    go_enter Try.func6, Try.ntmps6
    go_wp2_with fail
    refine (awake_any _).mono ?_
    rintro e w5 ⟨rfl, hb5⟩
    go_wp2_with fail
    go_ret
    exact ⟨rfl, hb5⟩
  have h2' : ¬ (60 : Int) < m.length := by omega
  by_cases hW : wrongR 1 l m = 0
  · have HW := Lib.hid hW
    clear hW
    obtain ⟨b0, hb0⟩ : ∃ z, (cst (sc l m) 4).1 = z := ⟨_, rfl⟩
    have Hb0 := Lib.hid hb0
    clear hb0
    go_enter Try.func6, Try.ntmps6
    go_wp2_with fail
    refine (best_ok l m A B c d _ Hr.out Hs.out (by omega) (by omega) HW.out).mono ?_
    rintro e w1 ⟨rfl, hb1⟩
    rw [Hb0.out]
    go_wp2_with fail
    refine (refWrong_any 1 l m A B c d _ (Hr.out.below hb1) (Hs.out.below hb1) (by omega) (by omega)).mono ?_
    rintro e w2 ⟨rfl, rfl⟩
    rw [HW.out]
    go_wp2_with fail
    refine (refBest_ok l m A B c d _ (Hr.out.below hb1) (Hs.out.below hb1) (by omega) (by omega) HW.out).mono ?_
    rintro e w3 ⟨rfl, hb3⟩
    rw [Hb0.out]
    have hb13 := bnext hb1 hb3
    go_wp2_with fail
    refine (awake_any _).mono ?_
    rintro e w5 ⟨rfl, hb5⟩
    go_wp2_with fail
    go_ret
    exact ⟨rfl, bnext hb13 hb5⟩
  · obtain ⟨f, hf⟩ : ∃ f, wrongR 1 l m = f := ⟨_, rfl⟩
    have hf0 : (f != 0) = true := by rw [bne_iff_ne, ← hf]; exact hW
    have Hf := Lib.hid hf
    have HW := Lib.hid hW
    clear hf hW
    go_enter Try.func6, Try.ntmps6
    go_wp2_with fail
    refine (best_no l m A B c d _ Hr.out Hs.out (by omega) (by omega) HW.out).mono ?_
    rintro e w1 ⟨rfl, hb1⟩
    rw [Hf.out]
    go_wp2_with fail
    refine (refWrong_any 1 l m A B c d _ (Hr.out.below hb1) (Hs.out.below hb1) (by omega) (by omega)).mono ?_
    rintro e w2 ⟨rfl, rfl⟩
    rw [Hf.out]
    go_wp2_with fail
    refine (awake_any _).mono ?_
    rintro e w5 ⟨rfl, hb5⟩
    go_wp2_with fail
    go_ret
    exact ⟨rfl, bnext hb1 hb5⟩
end Go.Proofs.Ytpjicibngdlhbaa
