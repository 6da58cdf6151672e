/-
  jetsamlaw01.awake.
-/
import Derived.Test.YtfncmgojeaeihaaWrc01
namespace Go.Proofs.Ytfncmgojeaeihaa
open Go.RowKit

def nv8 (l : List Nat) : List Value := l.map fun (x : Nat) => Value.int .u8 (x : Int)
set_option maxHeartbeats 800000 in
theorem bytesN_any (l m : List Nat) (A B : Option Addr) (c d : Nat) (w : World) (hl : Rd w A (nv8 l)) (hm : Rd w B (nv8 m)) (h63 : l.length < 9223372036854775807) :
    Calls Try.prog 16 #[.slice A l.length c, .slice B m.length d] w fun e w' => e = .returned (.bool (decide (l = m))) ∧ Below w.heap.size w w' := by
  have Hl := Lib.hid hl; clear hl
  have Hm := Lib.hid hm; clear hm
  by_cases hlen : l.length = m.length
  · have hx : ((l.length : Int) != (m.length : Int)) = false := by rw [bne_eq_false_iff_eq]; omega
    have Hlen := Lib.hid hlen
    clear hlen
    go_enter Try.func16, Try.ntmps16
    go_wp2_with fail
    go_loopw [5] (fun i wr => ∃ k : Nat, k ≤ l.length ∧ i = .int .i64 k ∧ Below w.heap.size w wr ∧ Hid (l.take k = m.take k)) (fun i _ => l.length - (intOf i).toNat)
    case atStart => exact ⟨0, by omega, rfl, Below.refl _ _, by simp [Hid]⟩
    case round =>
      obtain ⟨k, hk, rfl, hb, Ht⟩ := hrel
      by_cases hkk : k < l.length
      · have hkm : k < m.length := by have := Hlen.out; omega
        obtain ⟨b1, o1, rfl, hc1⟩ := (Hl.out.below hb) k (.int .u8 l[k]) (by simp [nv8, hkk])
        obtain ⟨b2, o2, rfl, hc2⟩ := (Hm.out.below hb) k (.int .u8 m[k]) (by simp [nv8, hkm])
        have hi0 : (0 : Int) ≤ (k : Int) := by omega
        have hi1 : (k : Int) < l.length := by omega
        have hi2 : (k : Int) < m.length := by omega
        have Hs : Hid (l[k] = m[k] → l.take (k + 1) = m.take (k + 1)) := by
          intro h
          rw [List.take_succ_eq_append_getElem hkk, List.take_succ_eq_append_getElem hkm, Ht.out, h]
        have Hn : Hid (l[k] ≠ m[k] → l ≠ m) := by
          intro h e; subst e; exact h rfl
        generalize l[k] = x at *
        generalize m[k] = y at *
        by_cases hxy : x = y
        · have Hxy := Lib.hid hxy
          have hq : ((x : Int) != (y : Int)) = false := by rw [bne_eq_false_iff_eq]; omega
          clear hxy
          go_wp2_with fail
          go_quiet (fail)
          go_wp2_with fail
          go_roundw
          case rel => exact ⟨k + 1, by omega, by go_num, by repeat (first | exact Below.refl _ _ | assumption | refine below_drewN ?_ _ | refine Below.drew ?_ | refine Below.alloc ?_ (Nat.le_refl _) _ | refine bal ?_ _ | refine bnext ?_ (by assumption)), Hs.out Hxy.out⟩
          case measure => simp [intOf] <;> omega
        · have Hxy := Lib.hid hxy
          have hq : ((x : Int) != (y : Int)) = true := by rw [bne_iff_ne]; omega
          clear hxy
          go_wp2_with fail
          go_quiet (fail)
          go_wp2_with fail
          go_ret
          exact ⟨ret_bool (decide_eq_false (Hn.out Hxy.out)).symm, by repeat (first | exact Below.refl _ _ | assumption | refine below_drewN ?_ _ | refine Below.drew ?_ | refine Below.alloc ?_ (Nat.le_refl _) _ | refine bal ?_ _ | refine bnext ?_ (by assumption))⟩
      · obtain rfl : k = l.length := by omega
        have He : Hid (l = m) := by
          have h := Ht.out
          rw [List.take_of_length_le (Nat.le_refl _), List.take_of_length_le (by rw [Hlen.out]; exact Nat.le_refl _)] at h
          exact h
        go_wp2_with fail
        go_ret
        exact ⟨ret_bool (decide_eq_true He.out).symm, hb⟩
  · have hx : ((l.length : Int) != (m.length : Int)) = true := by rw [bne_iff_ne]; omega
    have Hn : Hid (l ≠ m) := fun e => hlen (by rw [e])
    clear hlen
    go_enter Try.func16, Try.ntmps16
    go_wp2_with fail
    go_ret
    exact ⟨ret_bool (decide_eq_false Hn.out).symm, Below.refl _ _⟩
theorem bv_nv8 (l : List UInt8) : bv l = nv8 (l.map (·.toNat)) := by simp [bv, nv8]
theorem map_toNat_inj {l m : List UInt8} (h : l.map (·.toNat) = m.map (·.toNat)) : l = m := by
  induction l generalizing m with
  | nil => cases m with
    | nil => rfl
    | cons y m => simp at h
  | cons x l ih => cases m with
    | nil => simp at h
    | cons y m =>
      simp only [List.map_cons, List.cons.injEq] at h
      rw [UInt8.toNat_inj.1 h.1, ih h.2]
theorem bytes_any (l m : List UInt8) (A B : Option Addr) (c d : Nat) (w : World) (hl : Rd w A (bv l)) (hm : Rd w B (bv m)) (h63 : l.length < 9223372036854775807) :
    Calls Try.prog 16 #[.slice A l.length c, .slice B m.length d] w fun e w' => e = .returned (.bool (decide (l = m))) ∧ Below w.heap.size w w' := by
  rw [bv_nv8] at hl hm
  have h := bytesN_any (l.map (·.toNat)) (m.map (·.toNat)) A B c d w hl hm (by simpa using h63)
  rw [List.length_map, List.length_map, show decide (l.map (·.toNat) = m.map (·.toNat)) = decide (l = m) from decide_eq_decide.2 ⟨map_toNat_inj, fun e => by rw [e]⟩] at h
  exact h

theorem Take_l (R t t' : Nat) (A : Option Addr) (l : List UInt8) (c : Nat) (n v : Int) (w : World) (hr : Rdr w R t A l c) (h1 : tkE n (8 * l.length - t) = 0) (h2 : (tkV l t n : Int) = v) (h3 : tkT l t n = t') :
    Calls Try.prog 13 #[.pointer (some ⟨R, 0, none⟩), .int .i64 n] w fun e w' => e = .returned (.tuple #[.int .i64 v, .int .i64 0]) ∧ Rdr w' R t' A l c ∧ Fr (· = R) w w' := by
  have h := Take_any R t A l c n w hr
  rw [h1, h2, h3] at h
  exact h
theorem Signed_l (R t t' : Nat) (A : Option Addr) (l : List UInt8) (c : Nat) (n v : Int) (w : World) (hr : Rdr w R t A l c) (h1 : tkE n (8 * l.length - t) = 0) (h2 : sdV l t n = v) (h3 : tkT l t n = t') :
    Calls Try.prog 20 #[.pointer (some ⟨R, 0, none⟩), .int .i64 n] w fun e w' => e = .returned (.tuple #[.int .i64 v, .int .i64 0]) ∧ Rdr w' R t' A l c ∧ Fr (· = R) w w' := by
  have h := Signed_any R t A l c n w hr
  rw [h1, h2, h3] at h
  exact h

set_option maxRecDepth 100000 in
set_option maxHeartbeats 2000000 in
theorem awake_any (w : World) : Calls Try.prog 9 #[] w fun e w' => e = .returned (.bool true) ∧ Below w.heap.size w w' := by
  have hrd0 : Rd (w.alloc (.cells #[.int .u8 165] 5)) (some ⟨w.heap.size, 0, none⟩) (bv [165]) := Rd.new w #[.int .u8 165] 5
  have HN := Lib.hid (NewReader_any [165] (some ⟨w.heap.size, 0, none⟩) 1 _ hrd0 (by decide) (fun h => by cases h))
  clear hrd0
  go_enter Try.func9, Try.ntmps9
  go_wp2_with fail
  have hb0 : Below w.heap.size w (w.alloc (.cells #[.int .u8 165] 5)) := by repeat (first | exact Below.refl _ _ | assumption | refine below_drewN ?_ _ | refine Below.drew ?_ | refine Below.alloc ?_ (Nat.le_refl _) _ | refine bal ?_ _ | refine bnext ?_ (by assumption))
  refine HN.out.mono ?_
  rintro e w1 ⟨R, A, c, rfl, hR, hRw, hRl, hb1⟩
  have hwR : w.heap.size ≤ R := Nat.le_trans hb0.size hRw
  have hb2 := bnext hb0 hb1
  clear HN hb0 hb1
  go_wp2_with fail
  refine (NewWriter_any _).mono ?_
  rintro e w2 ⟨V, rfl, hV, hVw, hVl, hb3⟩
  have HR2 := Lib.hid (hR.below hb3)
  have hVR : R ≠ V := by omega
  have hb4 := bnext hb2 hb3
  have hwV : w.heap.size ≤ V := by omega
  have HV2 := Lib.hid hV
  clear hR hV hb3 hb2
  go_wp2_with fail
  refine (Take_l R 0 3 A [165] c 3 5 _ HR2.out (by decide) (by decide) (by decide)).mono ?_
  rintro e w3 ⟨rfl, hR3, f3⟩
  go_wp2_with fail
  refine (Signed_l R 3 5 A [165] c 2 0 _ hR3 (by decide) (by decide) (by decide)).mono ?_
  rintro e w4 ⟨rfl, hR4, f4⟩
  go_wp2_with fail
  refine (Unary_any R 5 A [165] c _ hR4).mono ?_
  rw [show unV [165] 5 = 0 from by decide, show unE [165] 5 = 0 from by decide, show unT [165] 5 = 6 from by decide]
  rintro e w5 ⟨rfl, hR5, f5⟩
  go_wp2_with fail
  refine (Take_l R 6 8 A [165] c 2 1 _ hR5 (by decide) (by decide) (by decide)).mono ?_
  rintro e w6 ⟨rfl, hR6, f6⟩
  have F6 : Fr (· = R) w2 w6 := f3.trans (f4.trans (f5.trans f6))
  have HV6 : Hid (Wtr w6 V [] (.slice none 0 0)) := HV2.out.keep F6 (fun k hk => by
    rcases hk with rfl | h
    · exact fun e => hVR e.symm
    · cases h)
  have hb6 : Below w.heap.size w w6 := F6.below hb4 (fun k hk => by subst hk; exact hwR)
  have HR6 := Lib.hid hR6
  clear f3 f4 f5 f6 F6 hR3 hR4 hR5 hR6 HR2 HV2 hb4
  have HPt := Lib.hid (Put_any V [] (.slice none 0 0) 3 5 w6 HV6.out (by decide))
  rw [show ptE 3 5 = 0 from by decide, show ptB [] 3 5 = [1, 0, 1] from by decide] at HPt
  go_wp2_with fail
  refine HPt.out.mono ?_
  rintro e w7 ⟨rfl, u7, hV7, F7⟩
  have hb7 := F7.below hb6 HV6.out hwV
  have HUn := Lib.hid (UnaryW_any V [1, 0, 1] u7 2 w7 hV7 (by decide))
  rw [show uwE 2 = 0 from by decide, show uwB [1, 0, 1] 2 = [1, 0, 1, 0, 0, 1] from by decide] at HUn
  clear HPt
  go_wp2_with fail
  refine HUn.out.mono ?_
  rintro e w8 ⟨rfl, u8, hV8, F8⟩
  have hb8 := F8.below hb7 hV7 hwV
  have FW := F7.trans F8
  have hrow : RdrAt w8 R 8 A 1 c := FW.fr.row HR6.out.row (fun h => by
    rcases h with h | h
    · exact hVR h
    · cases h)
  have HL := Lib.hid (Left_any R 8 A 1 c w8 hrow (by decide) (by decide))
  have HV8 := Lib.hid hV8
  clear HUn F7 F8 FW hV7 hV8 hrow HR6 hb7 hb6
  go_wp2_with fail
  refine HL.out.mono ?_
  rintro e w9 ⟨rfl, hb9⟩
  have HV9 := Lib.hid (HV8.out.below hb9)
  have hb10 := bnext hb8 hb9
  clear HL HV8 hb8 hb9
  go_wp2_with fail
  refine (Len_any V _ _ _ HV9.out).mono ?_
  rintro e w9 ⟨rfl, rfl⟩
  go_wp2_with fail
  refine (Bytes_any V _ _ _ HV9.out (by decide)).mono ?_
  rw [show pkL [1, 0, 1, 0, 0, 1] = [164] from by decide]
  rintro e w10 ⟨A1, c1, rfl, -, -, hr1, -, hb11⟩
  have hb12 := bnext hb10 hb11
  have hr2 : Rd (w10.alloc (.cells #[.int .u8 164] 5)) (some ⟨w10.heap.size, 0, none⟩) (bv [164]) := Rd.new w10 #[.int .u8 164] 5
  have HB := Lib.hid (bytes_any [164] [164] A1 (some ⟨w10.heap.size, 0, none⟩) c1 1 _ (hr1.alloc _) hr2 (by decide))
  rw [decide_eq_true rfl] at HB
  have hb13 := bal hb12 (.cells #[.int .u8 164] 5)
  clear hr1 hr2 hb11 hb12 hb10 HV9
  go_wp2_with fail
  refine HB.out.mono ?_
  rintro e w11 ⟨rfl, hb14⟩
  have hend := bnext hb13 hb14
  go_wp2_with fail
  go_ret
  exact ⟨rfl, hend⟩
end Go.Proofs.Ytfncmgojeaeihaa
