/-
  jetsamlaw09.awake; StereoParts' walk.
-/
import Derived.Test.YtpjicibngdlhbaaRef09
namespace Go.Proofs.Ytpjicibngdlhbaa
open Go.RowKit

theorem zip_get (f : Int → Int → Int) (l m : List Int) (k : Nat) (h1 : k < l.length) (h2 : k < m.length) : (zv (List.zipWith f l m))[k]? = some (.int .i64 (f l[k] m[k])) := by
  have h : k < (List.zipWith f l m).length := by rw [List.length_zipWith]; omega
  simp only [zv, List.getElem?_map, List.getElem?_eq_getElem h, Option.map_some, List.getElem_zipWith]

set_option maxHeartbeats 1000000 in
theorem awake_any (w : World) :
    Calls Try.prog 7 #[] w fun e w' => e = .returned (.bool true) ∧ Below w.heap.size w w' := by
  go_enter Try.func7, Try.ntmps7
  go_wp2_with fail
  have r1 : Rd (w.alloc (.cells #[.int .i64 5] 3)) (some ⟨w.heap.size, 0, none⟩) (zv [5]) := Rd.new w #[.int .i64 5] 3
  have r2 := Rd.new (w.alloc (.cells #[.int .i64 5] 3)) #[.int .i64 2] 3
  rw [show (w.alloc (.cells #[.int .i64 5] 3)).heap.size = w.heap.size + 1 from by simp] at r2
  refine (part_ok 10 [5] [2] _ _ 1 1 _ (r1.alloc _) r2 (by decide) (by decide) (by decide) trivial).mono ?_
  rintro e w1 ⟨A1, c1, A2, c2, rfl, HR1, HR2, hb1⟩
  have hb01 : Below w.heap.size w w1 := bnext (by repeat (first | exact Below.refl _ _ | assumption | refine below_drewN ?_ _ | refine Below.drew ?_ | refine Below.alloc ?_ (Nat.le_refl _) _ | refine bal ?_ _ | refine bnext ?_ (by assumption))) hb1
  have R1 : Hid (Rd w1 A1 (zv [3])) := HR1
  have R2 : Hid (Rd w1 A2 (zv [3])) := HR2
  clear HR1 HR2 hb1 r1 r2
  simp only [List.length_cons, List.length_nil, Nat.reduceAdd]
  go_wp2_with fail
  have r1 : Rd (w1.alloc (.cells #[.int .i64 3] 3)) (some ⟨w1.heap.size, 0, none⟩) (zv [3]) := Rd.new w1 #[.int .i64 3] 3
  have r2 := Rd.new (w1.alloc (.cells #[.int .i64 3] 3)) #[.int .i64 2] 3
  rw [show (w1.alloc (.cells #[.int .i64 3] 3)).heap.size = w1.heap.size + 1 from by simp] at r2
  refine (join_ok 9 [3] [2] _ _ 1 1 _ (r1.alloc _) r2 (by decide) (by decide) (by decide) rfl).mono ?_
  rintro e w2 ⟨A3, c3, A4, c4, rfl, HR3, HR4, hb2⟩
  have hb12 : Below w1.heap.size w1 w2 := bnext (by repeat (first | exact Below.refl _ _ | assumption | refine below_drewN ?_ _ | refine Below.drew ?_ | refine Below.alloc ?_ (Nat.le_refl _) _ | refine bal ?_ _ | refine bnext ?_ (by assumption))) hb2
  have hb02 : Below w.heap.size w w2 := bnext hb01 hb12
  have R1' : Hid (Rd w2 A1 (zv [3])) := R1.out.below hb12
  have R2' : Hid (Rd w2 A2 (zv [3])) := R2.out.below hb12
  have R3 : Hid (Rd w2 A3 (zv [5])) := HR3
  have R4 : Hid (Rd w2 A4 (zv [2])) := HR4
  clear HR3 HR4 hb2 r1 r2 R1 R2 hb12 hb01
  simp only [List.length_cons, List.length_nil, Nat.reduceAdd]
  go_wp2_with fail
  have r := Rd.new w2 #[.int .i64 3] 3
  refine (ints_any [3] [3] A1 _ c1 1 _ (R1'.out.alloc _) r (by decide)).mono ?_
  rintro e w3 ⟨rfl, hb3⟩
  have hb23 : Below w2.heap.size w2 w3 := bnext (by repeat (first | exact Below.refl _ _ | assumption | refine below_drewN ?_ _ | refine Below.drew ?_ | refine Below.alloc ?_ (Nat.le_refl _) _ | refine bal ?_ _ | refine bnext ?_ (by assumption))) hb3
  have hb03 := bnext hb02 hb23
  have R2 : Hid (Rd w3 A2 (zv [3])) := R2'.out.below hb23
  have R3' : Hid (Rd w3 A3 (zv [5])) := R3.out.below hb23
  have R4' : Hid (Rd w3 A4 (zv [2])) := R4.out.below hb23
  clear hb3 hb23 hb02 r R1' R2' R3 R4
  go_wp2_with fail
  have r := Rd.new w3 #[.int .i64 3] 3
  refine (ints_any [3] [3] A2 _ c2 1 _ (R2.out.alloc _) r (by decide)).mono ?_
  rintro e w4 ⟨rfl, hb4⟩
  have hb34 : Below w3.heap.size w3 w4 := bnext (by repeat (first | exact Below.refl _ _ | assumption | refine below_drewN ?_ _ | refine Below.drew ?_ | refine Below.alloc ?_ (Nat.le_refl _) _ | refine bal ?_ _ | refine bnext ?_ (by assumption))) hb4
  have hb04 := bnext hb03 hb34
  have R3 : Hid (Rd w4 A3 (zv [5])) := R3'.out.below hb34
  have R4 : Hid (Rd w4 A4 (zv [2])) := R4'.out.below hb34
  clear hb4 hb34 hb03 r R2 R3' R4'
  go_wp2_with fail
  have r := Rd.new w4 #[.int .i64 5] 3
  refine (ints_any [5] [5] A3 _ c3 1 _ (R3.out.alloc _) r (by decide)).mono ?_
  rintro e w5 ⟨rfl, hb5⟩
  have hb45 : Below w4.heap.size w4 w5 := bnext (by repeat (first | exact Below.refl _ _ | assumption | refine below_drewN ?_ _ | refine Below.drew ?_ | refine Below.alloc ?_ (Nat.le_refl _) _ | refine bal ?_ _ | refine bnext ?_ (by assumption))) hb5
  have hb05 := bnext hb04 hb45
  have R4' : Hid (Rd w5 A4 (zv [2])) := R4.out.below hb45
  clear hb5 hb45 hb04 r R3 R4
  go_wp2_with fail
  have r := Rd.new w5 #[.int .i64 2] 3
  refine (ints_any [2] [2] A4 _ c4 1 _ (R4'.out.alloc _) r (by decide)).mono ?_
  rintro e w6 ⟨rfl, hb6⟩
  have hb56 : Below w5.heap.size w5 w6 := bnext (by repeat (first | exact Below.refl _ _ | assumption | refine below_drewN ?_ _ | refine Below.drew ?_ | refine Below.alloc ?_ (Nat.le_refl _) _ | refine bal ?_ _ | refine bnext ?_ (by assumption))) hb6
  have hb06 := bnext hb05 hb56
  clear hb6 hb56 hb05 r R4'
  go_wp2_with fail
  go_ret
  exact ⟨rfl, hb06⟩

set_option maxHeartbeats 1000000 in
theorem parts_walk (mode : Int) (l m : List Int) (A B : Option Addr) (c d : Nat) (w : World) (hr : Rd w A (zv l)) (hs : Rd w B (zv m)) :
    Calls Try.prog 3 #[.int .i64 mode, .slice A l.length c, .slice B m.length d] w fun e w' => e = .returned (.bool true) ∧ Below w.heap.size w w' := by
  have Hr := Lib.hid hr; clear hr
  have Hs := Lib.hid hs; clear hs
  by_cases h1 : 60 < l.length
  · have h1' : (60 : Int) < l.length := by omega
    go_enter Try.func3, Try.ntmps3
    go_wp2_with fail
    refine (awake_any _).mono ?_
    rintro e w5 ⟨rfl, hb5⟩
    go_wp2_with fail
    go_ret
    exact ⟨rfl, hb5⟩
  have h1' : ¬ (60 : Int) < l.length := by omega
  by_cases h2 : 60 < m.length
  · have h2' : (60 : Int) < m.length := by omega
    go_enter Try.func3, Try.ntmps3
    go_wp2_with fail
    refine (awake_any _).mono ?_
    rintro e w5 ⟨rfl, hb5⟩
    go_wp2_with fail
    go_ret
    exact ⟨rfl, hb5⟩
  have h2' : ¬ (60 : Int) < m.length := by omega
  by_cases hW : wrongR mode l m = 0
  · obtain ⟨-, hlm, o1, o2⟩ := wrong_zero hW
    have O1 := Lib.hid o1
    have O2 := Lib.hid o2
    have Hlm := Lib.hid hlm
    have HW := Lib.hid hW
    clear hlm o1 o2 hW
    go_enter Try.func3, Try.ntmps3
    go_wp2_with fail
    refine (part_ok mode l m A B c d _ Hr.out Hs.out (by omega) (by omega) HW.out trivial).mono ?_
    rintro e w1 ⟨A1, c1, A2, c2, rfl, HR1, HR2, hb1⟩
    go_wp2_with fail
    refine (refWrong_any mode l m A B c d _ (Hr.out.below hb1) (Hs.out.below hb1) (by omega) (by omega)).mono ?_
    rintro e w2 ⟨rfl, rfl⟩
    rw [HW.out]
    go_wp2_with fail
    go_loopw [11] (fun i wr => ∃ k : Nat, k ≤ l.length ∧ i = .int .i64 k ∧ Hid (Below w2.heap.size w2 wr)) (fun i _ => l.length - (intOf i).toNat)
    case atStart => exact ⟨0, by omega, rfl, Below.refl _ _⟩
    case round =>
      obtain ⟨k, hk, rfl, Hb⟩ := hrel
      by_cases hkk : k < l.length
      · have hkm : k < m.length := by have := Hlm.out; omega
        obtain ⟨b1, o1, rfl, hc1⟩ := ((Hr.out.below hb1).below Hb.out) k (.int .i64 l[k]) (by simp [zv, hkk])
        obtain ⟨b2, o2, rfl, hc2⟩ := ((Hs.out.below hb1).below Hb.out) k (.int .i64 m[k]) (by simp [zv, hkm])
        obtain ⟨b3, o3, rfl, hc3⟩ := (HR1.out.below Hb.out) k (.int .i64 (twoN mode l[k] m[k]).1) (zip_get _ l m k hkk hkm)
        obtain ⟨b4, o4, rfl, hc4⟩ := (HR2.out.below Hb.out) k (.int .i64 (twoN mode l[k] m[k]).2) (zip_get _ l m k hkk hkm)
        have C := Lib.hid (two_still mode l[k] m[k] (O1.out _ (List.getElem_mem hkk)) (O2.out _ (List.getElem_mem hkm)))
        generalize l[k] = x at *
        generalize m[k] = y at *
        obtain ⟨px, hpx⟩ : ∃ p, (twoN mode x y).1 = p := ⟨_, rfl⟩
        obtain ⟨py, hpy⟩ : ∃ p, (twoN mode x y).2 = p := ⟨_, rfl⟩
        rw [hpx, hpy] at C
        rw [hpx] at hc3
        rw [hpy] at hc4
        clear hpx hpy
        have hkm' : (k : Int) < m.length := by omega
        have hk0 : (0 : Int) ≤ (k : Int) := by omega
        have hkl' : (k : Int) < l.length := by omega
        go_wp2_with fail
        go_quiet (refine Calls.quiet_of_same (C.out _))
        go_wp2_with fail
        go_roundw
        case rel => exact ⟨k + 1, by omega, by go_num, by show Below _ _ _; have := Hb.out; repeat (first | exact Below.refl _ _ | assumption | refine below_drewN ?_ _ | refine Below.drew ?_ | refine Below.alloc ?_ (Nat.le_refl _) _ | refine bal ?_ _ | refine bnext ?_ (by assumption))⟩
        case measure => simp [intOf] <;> omega
      · obtain rfl : k = l.length := by omega
        have hb5 := bnext hb1 Hb.out
        go_wp2_with fail
        refine (awake_any _).mono ?_
        rintro e w5 ⟨rfl, hb6⟩
        go_wp2_with fail
        go_ret
        exact ⟨rfl, bnext hb5 hb6⟩
  · obtain ⟨f, hf⟩ : ∃ f, wrongR mode l m = f := ⟨_, rfl⟩
    have hf0 : (f != 0) = true := by rw [bne_iff_ne, ← hf]; exact hW
    have Hf := Lib.hid hf
    have HW := Lib.hid hW
    clear hf hW
    go_enter Try.func3, Try.ntmps3
    go_wp2_with fail
    refine (part_no mode l m A B c d _ Hr.out Hs.out (by omega) (by omega) HW.out).mono ?_
    rintro e w1 ⟨rfl, hb1⟩
    rw [Hf.out]
    go_wp2_with fail
    refine (refWrong_any mode l m A B c d _ (Hr.out.below hb1) (Hs.out.below hb1) (by omega) (by omega)).mono ?_
    rintro e w2 ⟨rfl, rfl⟩
    rw [Hf.out]
    go_wp2_with fail
    refine (awake_any _).mono ?_
    rintro e w5 ⟨rfl, hb5⟩
    go_wp2_with fail
    go_ret
    exact ⟨rfl, bnext hb1 hb5⟩
end Go.Proofs.Ytpjicibngdlhbaa
