/-
  jetsamlaw03.awake, CodedPuts' walk.
-/
import Derived.Test.YtjiopnjmklampaaDoorBytes
import Derived.Test.YtjiopnjmklampaaDoorGet
import Derived.Test.YtjiopnjmklampaaDoorPackLaw
namespace Go.Proofs.YtjiopnjmklampaaDoor
open Go.RowKit

theorem put_rd (n : Nat) (hn : n < 68719476736) (w : World) (ht : TabAt w) :
    Calls Tryd.prog 7 #[.int .i64 n] w fun e w' => ∃ A c, e = .returned (.tuple #[.slice A (codeN n).length c, .int .i64 0]) ∧ (codeN n).length ≤ c ∧ Hid (w'.ownsRow w.heap.size 5 1 (.slice A (codeN n).length c) (codeN n).length (nv8 (codeN n))) ∧ Hid (Rd w' A (nv8 (codeN n))) ∧ Below w.heap.size w w' := by
  refine (put_ok n hn w ht).mono ?_
  rintro e w' ⟨v, rfl, hown, hb⟩
  obtain ⟨A, c, rfl, hc, hr⟩ := own_rd hown.out
  have hl := codeN_length n
  refine ⟨A, c, by rw [hl], by rw [hl]; exact hc, ?_, hr, hb⟩
  rw [hl]; exact hown
theorem put_no (n : Int) (hn : n < 0 ∨ 68719476735 < n) (w : World) :
    Calls Tryd.prog 7 #[.int .i64 n] w fun e w' => e = .returned (.tuple #[.slice none 0 0, .int .i64 10]) ∧ Below w.heap.size w w' := by
  go_enter Tryd.func7, Tryd.ntmps7
  go_wp2_with fail
  refine (len_no n hn _).mono ?_
  rintro e w1 ⟨rfl, rfl⟩
  go_wp2_with fail
  go_ret2
  exact ⟨rfl, by repeat (first | exact Below.refl _ _ | assumption | refine below_drewN ?_ _ | refine Below.drew ?_ | refine Below.alloc ?_ (Nat.le_refl _) _ | refine bal ?_ _ | refine bnext ?_ (by assumption))⟩

theorem code128 : codeN 128 = [194, 128] := by decide +kernel
theorem codeMost : codeN 68719476735 = [254, 191, 191, 191, 191, 191, 191] := by decide +kernel
theorem get128 : getR [194, 128, 5] = (128, 2, 0) := by decide +kernel
theorem getBad : getR [193, 191] = (0, 0, 12) := by decide +kernel

set_option maxHeartbeats 1000000 in
theorem awake_any (w : World) (ht : TabAt w) :
    Calls Tryd.prog 9 #[] w fun e w' => e = .returned (.bool true) ∧ Below w.heap.size w w' := by
  have Ht := Lib.hid ht; clear ht
  go_enter Tryd.func9, Tryd.ntmps9
  go_wp2_with fail
  refine (put_rd 128 (by omega) _ Ht.out).mono ?_
  rintro e w1 ⟨A1, c1, rfl, hc1, -, hr1, hb1⟩
  rw [code128] at hr1 hc1 ⊢
  simp only [List.length_cons, List.length_nil, Nat.reduceAdd] at hc1 ⊢
  go_wp2_with fail
  refine (put_rd 68719476735 (by omega) _ (Ht.out.below hb1)).mono ?_
  rintro e w2 ⟨A2, c2, rfl, hc2, -, hr2, hb2⟩
  rw [codeMost] at hr2 hc2 ⊢
  simp only [List.length_cons, List.length_nil, Nat.reduceAdd] at hc2 ⊢
  have hb02 := bnext hb1 hb2
  have Hr1 : Hid (Rd w2 A1 (nv8 [194, 128])) := hr1.out.below hb2
  clear hr1 hb1 hb2
  go_wp2_with fail
  have h := Rd.new w2 #[.int .u8 194, .int .u8 128, .int .u8 5] 5
  refine (get_any [194, 128, 5] (by decide) _ 3 _ h (by decide) ((Ht.out.below hb02).below (bal (Below.refl _ _) _))).mono ?_
  rintro e w3 ⟨rfl, hb3⟩
  rw [get128]
  have hb03 : Below w.heap.size w w3 := bnext (bal hb02 _) hb3
  have hb23 : Below w2.heap.size w2 w3 := bnext (bal (Below.refl _ _) _) hb3
  have Hr1' : Hid (Rd w3 A1 (nv8 [194, 128])) := Hr1.out.below hb23
  have Hr2' : Hid (Rd w3 A2 (nv8 [254, 191, 191, 191, 191, 191, 191])) := hr2.out.below hb23
  clear h hb3 hb23 Hr1 hr2 hb02
  go_wp2_with fail
  have h := Rd.new w3 #[.int .u8 193, .int .u8 191] 5
  refine (get_any [193, 191] (by decide) _ 2 _ h (by decide) ((Ht.out.below hb03).below (bal (Below.refl _ _) _))).mono ?_
  rintro e w4 ⟨rfl, hb4⟩
  rw [getBad]
  have hb04 : Below w.heap.size w w4 := bnext (bal hb03 _) hb4
  have hb34 : Below w3.heap.size w3 w4 := bnext (bal (Below.refl _ _) _) hb4
  have Hr1 : Hid (Rd w4 A1 (nv8 [194, 128])) := Hr1'.out.below hb34
  have Hr2 : Hid (Rd w4 A2 (nv8 [254, 191, 191, 191, 191, 191, 191])) := Hr2'.out.below hb34
  clear h hb4 hb34 Hr1' Hr2' hb03
  go_wp2_with fail
  have h := Rd.new w4 #[.int .u8 194, .int .u8 128] 5
  refine (bytes_any [194, 128] [194, 128] A1 _ c1 2 _ (Hr1.out.alloc _) h (by decide)).mono ?_
  rintro e w5 ⟨rfl, hb5⟩
  have hb05 : Below w.heap.size w w5 := bnext (bal hb04 _) hb5
  have hb45 : Below w4.heap.size w4 w5 := bnext (bal (Below.refl _ _) _) hb5
  have Hr2' : Hid (Rd w5 A2 (nv8 [254, 191, 191, 191, 191, 191, 191])) := Hr2.out.below hb45
  clear h hb5 hb45 Hr1 Hr2 hb04
  go_wp2_with fail
  have h := Rd.new w5 #[.int .u8 254, .int .u8 191, .int .u8 191, .int .u8 191, .int .u8 191, .int .u8 191, .int .u8 191] 5
  refine (bytes_any [254, 191, 191, 191, 191, 191, 191] [254, 191, 191, 191, 191, 191, 191] A2 _ c2 7 _ (Hr2'.out.alloc _) h (by decide)).mono ?_
  rintro e w6 ⟨rfl, hb6⟩
  have hb06 : Below w.heap.size w w6 := bnext (bal hb05 _) hb6
  clear h hb6 Hr2' hb05
  go_wp2_with fail
  go_ret
  exact ⟨rfl, hb06⟩

set_option maxHeartbeats 1000000 in
theorem puts_walk (n : Int) (w : World) (ht : TabAt w) :
    Calls Tryd.prog 3 #[.int .i64 n] w fun e w' => e = .returned (.bool true) ∧ Below w.heap.size w w' := by
  have Ht := Lib.hid ht; clear ht
  by_cases hn : n < 0 ∨ 68719476735 < n
  · have HN := Lib.hid hn
    have hlt : (decide (n < 0) || decide (68719476735 < n)) = true := by simpa using hn
    rcases hn with hn | hn
    · go_enter Tryd.func3, Tryd.ntmps3
      go_wp2_with fail
      refine (put_no n HN.out _).mono ?_
      rintro e w1 ⟨rfl, hb1⟩
      go_wp2_with fail
      refine (len_no n HN.out _).mono ?_
      rintro e w2 ⟨rfl, rfl⟩
      go_wp2_with fail
      refine (awake_any _ (Ht.out.below hb1)).mono ?_
      rintro e w3 ⟨rfl, hb3⟩
      go_wp2_with fail
      go_ret
      exact ⟨rfl, bnext hb1 hb3⟩
    · have hn0 : ¬ n < 0 := by omega
      go_enter Tryd.func3, Tryd.ntmps3
      go_wp2_with fail
      refine (put_no n HN.out _).mono ?_
      rintro e w1 ⟨rfl, hb1⟩
      go_wp2_with fail
      refine (len_no n HN.out _).mono ?_
      rintro e w2 ⟨rfl, rfl⟩
      go_wp2_with fail
      refine (awake_any _ (Ht.out.below hb1)).mono ?_
      rintro e w3 ⟨rfl, hb3⟩
      go_wp2_with fail
      go_ret
      exact ⟨rfl, bnext hb1 hb3⟩
  · obtain ⟨m, rfl⟩ : ∃ m : Nat, n = m := ⟨n.toNat, by omega⟩
    have hm : m < 68719476736 := by omega
    have h1 : ¬ (m : Int) < 0 := by omega
    have h2 : ¬ (68719476735 : Int) < m := by omega
    clear hn
    have Hcl := Lib.hid (codeN_length m)
    have HP := Lib.hid (fun h W => refPut_ok m hm h W)
    have HP2 := Lib.hid (code_eq m hm)
    go_enter Tryd.func3, Tryd.ntmps3
    go_wp2_with fail
    refine (put_rd m hm _ Ht.out).mono ?_
    rintro e w1 ⟨A1, c1, rfl, hc1, -, hr1, hb1⟩
    obtain ⟨cd, hcd⟩ : ∃ cd, codeN m = cd := ⟨_, rfl⟩
    rw [hcd] at hc1 hr1 Hcl ⊢
    go_wp2_with fail
    refine (len_ok m hm _ (Ht.out.below hb1)).mono ?_
    rintro e w2 ⟨rfl, rfl⟩
    rw [← Hcl.out]
    have Hcd := Lib.hid hcd
    clear hcd
    go_wp2_with fail
    refine (HP.out HP2.out _).mono ?_
    rintro e w3 ⟨v3, rfl, Hown3, hb3⟩
    obtain ⟨A3, c3, rfl, hc3, hr3⟩ := own_rd Hown3.out
    rw [Hcd.out] at hr3
    rw [← Hcl.out]
    have Hr3 := Lib.hid hr3
    clear hr3 Hown3
    have hlen : cd.length ≤ 7 := by have := (szN_pos m).2; have := Hcl.out; omega
    have hb13 := bnext hb1 hb3
    go_wp2_with fail
    refine (bytes_any cd cd A1 A3 c1 c3 _ (hr1.out.below hb3) Hr3.out (by omega)).mono ?_
    rintro e w4 ⟨rfl, hb4⟩
    rw [decide_eq_true rfl]
    have hb14 := bnext hb13 hb4
    go_wp2_with fail
    refine (awake_any _ (Ht.out.below hb14)).mono ?_
    rintro e w5 ⟨rfl, hb5⟩
    go_wp2_with fail
    go_ret
    exact ⟨rfl, bnext hb14 hb5⟩
end Go.Proofs.YtjiopnjmklampaaDoor
