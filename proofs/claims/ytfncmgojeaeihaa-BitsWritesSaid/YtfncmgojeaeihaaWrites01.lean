/-
  jetsamlaw01.BitsWrites: its walk.
-/
import Derived.Test.YtfncmgojeaeihaaRefUn01
import Derived.Test.YtfncmgojeaeihaaBackW01
namespace Go.Proofs.Ytfncmgojeaeihaa
open Go.RowKit

theorem byte_bits (l : List UInt8) (j : Nat) (h : j < l.length) : vb (l[j]).toNat 8 = (List.range 8).map fun i => bitAt l (8 * j + i) := by
  unfold vb
  refine List.map_congr_left fun i hi => ?_
  have hi := List.mem_range.1 hi
  rw [bitAt, show (8 * j + i) / 8 = j from by omega, show (8 * j + i) % 8 = i from by omega, List.getD_eq_getElem?_getD, List.getElem?_eq_getElem h]
  rfl
theorem bitL_by8 (l : List UInt8) : bitL l (8 * l.length) = by8 l := by
  have key : ∀ j, j ≤ l.length → bitL l (8 * j) = by8 (l.take j) := by
    intro j
    induction j with
    | zero => intro _; simp [bitL, by8]
    | succ j ih =>
      intro hj
      rw [by8_snoc l j (by omega), ← ih (by omega), byte_bits l j (by omega), bitL_add, show 8 * j + 8 = 8 * (j + 1) from by omega]
  rw [key _ (Nat.le_refl _), List.take_length]
theorem u8w (n : Int) : ∃ x : UInt8, IntKind.u8.wrap n = (x.toNat : Int) := by
  refine ⟨UInt8.ofNat (n % 256).toNat, ?_⟩
  rw [UInt8.toNat_ofNat']
  simp only [IntKind.wrap, IntKind.bits, IntKind.signed]
  simp
  omega
theorem ptB_len (bs : List Nat) (n v : Int) : (ptB bs n v).length ≤ bs.length + 48 := by
  unfold ptB
  split
  · rename_i h; have := ptE_ok h; rw [List.length_append, vb_length]; omega
  · omega
theorem swB_len (bs : List Nat) (n v : Int) : (swB bs n v).length ≤ bs.length + 48 := by
  unfold swB
  split
  · rename_i h; have := swE_ok h; rw [List.length_append, vb_length]; omega
  · omega

set_option maxRecDepth 100000 in
set_option maxHeartbeats 4000000 in
theorem bitsWrites_walk (l : List T3) (A : Option Addr) (c : Nat) (w : World) (hr : RdT w A l) (hwf : ∀ x ∈ l, -9223372036854775808 ≤ x.v ∧ x.v ≤ 9223372036854775807) :
    Calls Try.prog 6 #[.slice A l.length c] w fun e w' => e = .returned (.bool true) ∧ Below w.heap.size w w' := by
  have Hr := Lib.hid hr
  have Hwf := Lib.hid hwf
  clear hr hwf
  by_cases h60 : 60 < l.length
  · clear Hr Hwf
    generalize l.length = m at *
    go_enter Try.func6, Try.ntmps6
    go_wp2_with fail
    refine (NewWriter_any _).mono ?_
    rintro e w1 ⟨V, rfl, -, -, -, hb1⟩
    go_wp2_with fail
    refine (awake_any _).mono ?_
    rintro e w2 ⟨rfl, hb2⟩
    have hend := bnext hb1 hb2
    go_wp2_with fail
    go_ret
    exact ⟨rfl, hend⟩
  go_enter Try.func6, Try.ntmps6
  go_wp2_with fail
  refine (NewWriter_any _).mono ?_
  rintro e w1 ⟨V, rfl, hV, hwV, -, hb1⟩
  have HV1 := Lib.hid hV
  have Hb1 := Lib.hid hb1
  clear hV hb1
  go_wp2_with fail
  go_loopw [4, 5] (fun xv iv wr => ∃ (i : Nat) (bs : List Nat) (u : Value), i ≤ l.length ∧ iv = .int .i64 (i : Int) ∧ Hid (bs.length ≤ 2000 * i) ∧ Hid (Wtr wr V bs u) ∧ Hid (wr.ownsRow w.heap.size 3 1 xv bs.length (iv8 bs)) ∧ Hid (Below w.heap.size w wr)) (fun _ iv _ => l.length - (intOf iv).toNat)
  case atStart => exact ⟨0, [], _, by omega, rfl, Nat.le_refl _, HV1.out, World.ownsRow_nil _ _ _ 1, Hb1.out⟩
  case round =>
    clear HV1 Hb1
    obtain ⟨i, bs, u, hi, rfl, Hln, HV, Hx, Hb⟩ := hrel
    by_cases hii : i < l.length
    · obtain ⟨b, o, rfl, hc0, hc1, hc2⟩ := (Hr.out.below Hb.out) i l[i] (List.getElem?_eq_getElem hii)
      have hil : (i : Int) < l.length := by omega
      obtain ⟨hv1, hv2⟩ := Hwf.out l[i] (List.getElem_mem hii)
      obtain ⟨x, hx⟩ : ∃ x, l[i] = x := ⟨_, rfl⟩
      rw [hx] at hc0 hc1 hc2 hv1 hv2
      clear hx
      obtain ⟨a, n, v⟩ := x
      simp only at hc0 hc1 hc2 hv1 hv2
      have Hvb := Lib.hid (And.intro hv1 hv2)
      clear hv1 hv2
      obtain ⟨wO, hwO, HVO, HxO, HbO, HO⟩ : ∃ wO, wr.alloc (.cells #[.int .i64 a, .int .i64 n, .int .i64 v] 47) = wO ∧ Hid (Wtr wO V bs u) ∧ Hid (wO.ownsRow w.heap.size 3 1 u4 bs.length (iv8 bs)) ∧ Hid (Below w.heap.size w wO) ∧ Hid (wO.heap[wr.heap.size]? = some (.cells #[.int .i64 a, .int .i64 n, .int .i64 v] 47 (0, 0))) :=
        ⟨_, rfl, HV.out.below (bal (Below.refl _ _) _), Hx.out.alloc _, bal Hb.out _, heap_alloc_last wr _⟩
      obtain ⟨O, hO⟩ : ∃ O, wr.heap.size = O := ⟨_, rfl⟩
      have hO0 := cell_of_row wO O 0 _ _ _ (hO ▸ HO.out)
      have hO1 := cell_of_row wO O 1 _ _ _ (hO ▸ HO.out)
      have hO2 := cell_of_row wO O 2 _ _ _ (hO ▸ HO.out)
      simp only [List.getElem?_toArray, List.getElem?_cons_zero, List.getElem?_cons_succ] at hO0 hO1 hO2
      rw [hO] at HO
      have HhO := Lib.hid hO
      clear hO
      go_upto_region 9 with fail
      rw [HhO.out]
      clear hwO hc0 hc1 hc2 HV Hx Hb HhO
      have hl0 : bs.length + 70000 ≤ 1000000000000 := by have := Hln.out; omega
      by_cases ha0 : a = 0
      · obtain rfl := ha0
        have HlB : Hid ((ptB bs n v).length ≤ 2000 * (i + 1)) := by show _ ≤ _; have := ptB_len bs n v; have := Hln.out; omega
        go_wp2_with fail
        refine (Put_any V bs u n v wO HVO.out (by omega)).mono ?_
        rintro e w4 ⟨rfl, u5, hV4, f4⟩
        have Hx4 := Lib.hid (own_keepWtr HVO.out HxO.out (by decide) (by decide) f4)
        have Hb4 := Lib.hid (f4.below HbO.out HVO.out hwV)
        have hrow4 := blk_keepW HVO.out f4 HO.out
        have HV4 := Lib.hid hV4
        have hq1 := cell_of_row w4 O 1 _ _ _ hrow4
        have hq2 := cell_of_row w4 O 2 _ _ _ hrow4
        simp only [List.getElem?_toArray, List.getElem?_cons_zero, List.getElem?_cons_succ] at hq1 hq2
        clear hV4 f4 hrow4 HVO HxO HbO HO hO0 hO1 hO2
        have HRP := Lib.hid ((fun W h h2 => RPut_any u4 bs n v false w.heap.size W h h2 (by omega) Hvb.out.1 Hvb.out.2) w4 Hx4.out Hb4.out.size)
        rw [rpE_u, rpB_u] at HRP
        go_wp2_with fail
        refine HRP.out.mono ?_
        rintro e wc ⟨xv2, rfl, ho2, f2⟩
        have HVc := Lib.hid (HV4.out.keepRow Hx4.out (by decide) (by decide) f2)
        have Hbc := Lib.hid (f2.below Hb4.out Hx4.out (Nat.le_refl _))
        have Hxc := Lib.hid ho2
        clear HRP HV4 Hx4 Hb4 ho2 f2 hq1 hq2
        generalize ptB bs n v = B at *
        generalize ptE n v = E at *
        have hEE : ((E) != (E)) = false := by simp
        have hLL : ((B.length : Int) != (B.length : Int)) = false := by simp
        have hBl : B.length ≤ 120000 := by have := HlB.out; omega
        have HLn := Lib.hid (Len_any V B u5 wc HVc.out)
        have HBy := Lib.hid (Bytes_any V B u5 wc HVc.out (by omega))
        have HBit := Lib.hid HVc.out.bit
        first | obtain ⟨A6, c6, rfl, -, -, hr6, -⟩ := own_rd4 Hxc.out | (obtain ⟨A6', c6', hsl, -, -, hr6, -⟩ := own_rd4 Hxc.out; injection hsl with hs1 hs2 hs3; rw [← hs1] at hr6; clear hs1 hs2 hs3 c6' A6')
        have Hr6 := Lib.hid hr6
        clear hr6
        go_wp2_with fail
        refine HLn.out.mono ?_
        rintro e w5' ⟨rfl, hw5⟩
        obtain rfl : wc = w5' := hw5.symm
        go_wp2_with fail
        refine HBy.out.mono ?_
        rintro e w6 ⟨A7, c7, rfl, -, -, hr7, -, hb7⟩
        have HRB := Lib.hid (RBytesL_any B HBit.out A6 c6 w6 (Hr6.out.below hb7) (by omega))
        have Hr7 := Lib.hid hr7
        have Hb7 := Lib.hid hb7
        clear HLn HBy hr7 hb7
        go_wp2_with fail
        refine HRB.out.mono ?_
        rintro e w7 ⟨v8, rfl, Ho8, hb8⟩
        obtain ⟨A8, c8, rfl, -, -, hr8, -⟩ := own_rd4 Ho8.out
        have HBB := Lib.hid (bytes_any (pkL B) (pkL B) A7 A8 c7 c8 w7 (Hr7.out.below hb8) hr8 (by rw [pkL_length]; omega))
        rw [decide_eq_true rfl] at HBB
        have Hb8 := Lib.hid (bnext Hb7.out hb8)
        clear HRB Ho8 hr8 hb8 Hb7
        go_wp2_with fail
        refine HBB.out.mono ?_
        rintro e w9 ⟨rfl, hb9⟩
        have Hb9 := Lib.hid (bnext Hb8.out hb9)
        clear HBB hb9
        go_wp2_with fail
        go_roundw
        case rel => exact ⟨i + 1, B, u5, by omega, by go_num, HlB.out, HVc.out.below Hb9.out, ownsRow_below Hxc.out Hb9.out, bnext Hbc.out Hb9.out⟩
        case measure => simp [intOf] <;> omega
      have hb0 : (a == 0) = false := by rw [beq_eq_false_iff_ne]; exact ha0
      by_cases ha1 : a = 1
      · obtain rfl := ha1
        have HlB : Hid ((swB bs n v).length ≤ 2000 * (i + 1)) := by show _ ≤ _; have := swB_len bs n v; have := Hln.out; omega
        go_wp2_with fail
        refine (SignedW_any V bs u n v wO HVO.out (by omega)).mono ?_
        rintro e w4 ⟨rfl, u5, hV4, f4⟩
        have Hx4 := Lib.hid (own_keepWtr HVO.out HxO.out (by decide) (by decide) f4)
        have Hb4 := Lib.hid (f4.below HbO.out HVO.out hwV)
        have hrow4 := blk_keepW HVO.out f4 HO.out
        have HV4 := Lib.hid hV4
        have hq1 := cell_of_row w4 O 1 _ _ _ hrow4
        have hq2 := cell_of_row w4 O 2 _ _ _ hrow4
        simp only [List.getElem?_toArray, List.getElem?_cons_zero, List.getElem?_cons_succ] at hq1 hq2
        clear hV4 f4 hrow4 HVO HxO HbO HO hO0 hO1 hO2
        have HRP := Lib.hid ((fun W h h2 => RPut_any u4 bs n v true w.heap.size W h h2 (by omega) Hvb.out.1 Hvb.out.2) w4 Hx4.out Hb4.out.size)
        rw [rpE_s, rpB_s] at HRP
        go_wp2_with fail
        refine HRP.out.mono ?_
        rintro e wc ⟨xv2, rfl, ho2, f2⟩
        have HVc := Lib.hid (HV4.out.keepRow Hx4.out (by decide) (by decide) f2)
        have Hbc := Lib.hid (f2.below Hb4.out Hx4.out (Nat.le_refl _))
        have Hxc := Lib.hid ho2
        clear HRP HV4 Hx4 Hb4 ho2 f2 hq1 hq2
        generalize swB bs n v = B at *
        generalize swE n v = E at *
        have hEE : ((E) != (E)) = false := by simp
        have hLL : ((B.length : Int) != (B.length : Int)) = false := by simp
        have hBl : B.length ≤ 120000 := by have := HlB.out; omega
        have HLn := Lib.hid (Len_any V B u5 wc HVc.out)
        have HBy := Lib.hid (Bytes_any V B u5 wc HVc.out (by omega))
        have HBit := Lib.hid HVc.out.bit
        first | obtain ⟨A6, c6, rfl, -, -, hr6, -⟩ := own_rd4 Hxc.out | (obtain ⟨A6', c6', hsl, -, -, hr6, -⟩ := own_rd4 Hxc.out; injection hsl with hs1 hs2 hs3; rw [← hs1] at hr6; clear hs1 hs2 hs3 c6' A6')
        have Hr6 := Lib.hid hr6
        clear hr6
        go_wp2_with fail
        refine HLn.out.mono ?_
        rintro e w5' ⟨rfl, hw5⟩
        obtain rfl : wc = w5' := hw5.symm
        go_wp2_with fail
        refine HBy.out.mono ?_
        rintro e w6 ⟨A7, c7, rfl, -, -, hr7, -, hb7⟩
        have HRB := Lib.hid (RBytesL_any B HBit.out A6 c6 w6 (Hr6.out.below hb7) (by omega))
        have Hr7 := Lib.hid hr7
        have Hb7 := Lib.hid hb7
        clear HLn HBy hr7 hb7
        go_wp2_with fail
        refine HRB.out.mono ?_
        rintro e w7 ⟨v8, rfl, Ho8, hb8⟩
        obtain ⟨A8, c8, rfl, -, -, hr8, -⟩ := own_rd4 Ho8.out
        have HBB := Lib.hid (bytes_any (pkL B) (pkL B) A7 A8 c7 c8 w7 (Hr7.out.below hb8) hr8 (by rw [pkL_length]; omega))
        rw [decide_eq_true rfl] at HBB
        have Hb8 := Lib.hid (bnext Hb7.out hb8)
        clear HRB Ho8 hr8 hb8 Hb7
        go_wp2_with fail
        refine HBB.out.mono ?_
        rintro e w9 ⟨rfl, hb9⟩
        have Hb9 := Lib.hid (bnext Hb8.out hb9)
        clear HBB hb9
        go_wp2_with fail
        go_roundw
        case rel => exact ⟨i + 1, B, u5, by omega, by go_num, HlB.out, HVc.out.below Hb9.out, ownsRow_below Hxc.out Hb9.out, bnext Hbc.out Hb9.out⟩
        case measure => simp [intOf] <;> omega
      have hb1 : (a == 1) = false := by rw [beq_eq_false_iff_ne]; exact ha1
      by_cases ha2 : a = 2
      · obtain rfl := ha2
        by_cases hv : v > 1000 ∧ v ≤ 65536
        · obtain ⟨hv1, hv2⟩ := hv
          go_wp2_with fail
          go_roundw
          case rel => exact ⟨i + 1, bs, u, by omega, by go_num, by have := Hln.out; show _ ≤ _; omega, HVO.out, HxO.out, HbO.out⟩
          case measure => simp [intOf] <;> omega
        · have HlB : Hid ((uwB bs v).length ≤ 2000 * (i + 1)) := by
            show _ ≤ _
            have := Hln.out
            unfold uwB
            split
            · rename_i h
              unfold uwE at h
              split at h
              · cases h
              · rw [List.length_append, List.length_append, zb_length]; simp; omega
            · omega
          rcases (show v ≤ 1000 ∨ v > 65536 by omega) with hv1 | hv1
          · clear hv
            go_wp2_with fail
            refine (UnaryW_any V bs u v wO HVO.out (by omega)).mono ?_
            rintro e w4 ⟨rfl, u5, hV4, f4⟩
            have Hx4 := Lib.hid (own_keepWtr HVO.out HxO.out (by decide) (by decide) f4)
            have Hb4 := Lib.hid (f4.below HbO.out HVO.out hwV)
            have hrow4 := blk_keepW HVO.out f4 HO.out
            have HV4 := Lib.hid hV4
            have hq1 := cell_of_row w4 O 1 _ _ _ hrow4
            have hq2 := cell_of_row w4 O 2 _ _ _ hrow4
            simp only [List.getElem?_toArray, List.getElem?_cons_zero, List.getElem?_cons_succ] at hq1 hq2
            clear hV4 f4 hrow4 HVO HxO HbO HO hO0 hO1 hO2
            have HRP := Lib.hid ((fun W h h2 => RUnaryL_any u4 bs v w.heap.size W h h2 (by omega)) w4 Hx4.out Hb4.out.size)
            skip
            go_wp2_with fail
            refine HRP.out.mono ?_
            rintro e wc ⟨xv2, rfl, ho2, f2⟩
            have HVc := Lib.hid (HV4.out.keepRow Hx4.out (by decide) (by decide) f2)
            have Hbc := Lib.hid (f2.below Hb4.out Hx4.out (Nat.le_refl _))
            have Hxc := Lib.hid ho2
            clear HRP HV4 Hx4 Hb4 ho2 f2 hq1 hq2
            generalize uwB bs v = B at *
            generalize uwE v = E at *
            have hEE : ((E) != (E)) = false := by simp
            have hLL : ((B.length : Int) != (B.length : Int)) = false := by simp
            have hBl : B.length ≤ 120000 := by have := HlB.out; omega
            have HLn := Lib.hid (Len_any V B u5 wc HVc.out)
            have HBy := Lib.hid (Bytes_any V B u5 wc HVc.out (by omega))
            have HBit := Lib.hid HVc.out.bit
            first | obtain ⟨A6, c6, rfl, -, -, hr6, -⟩ := own_rd4 Hxc.out | (obtain ⟨A6', c6', hsl, -, -, hr6, -⟩ := own_rd4 Hxc.out; injection hsl with hs1 hs2 hs3; rw [← hs1] at hr6; clear hs1 hs2 hs3 c6' A6')
            have Hr6 := Lib.hid hr6
            clear hr6
            go_wp2_with fail
            refine HLn.out.mono ?_
            rintro e w5' ⟨rfl, hw5⟩
            obtain rfl : wc = w5' := hw5.symm
            go_wp2_with fail
            refine HBy.out.mono ?_
            rintro e w6 ⟨A7, c7, rfl, -, -, hr7, -, hb7⟩
            have HRB := Lib.hid (RBytesL_any B HBit.out A6 c6 w6 (Hr6.out.below hb7) (by omega))
            have Hr7 := Lib.hid hr7
            have Hb7 := Lib.hid hb7
            clear HLn HBy hr7 hb7
            go_wp2_with fail
            refine HRB.out.mono ?_
            rintro e w7 ⟨v8, rfl, Ho8, hb8⟩
            obtain ⟨A8, c8, rfl, -, -, hr8, -⟩ := own_rd4 Ho8.out
            have HBB := Lib.hid (bytes_any (pkL B) (pkL B) A7 A8 c7 c8 w7 (Hr7.out.below hb8) hr8 (by rw [pkL_length]; omega))
            rw [decide_eq_true rfl] at HBB
            have Hb8 := Lib.hid (bnext Hb7.out hb8)
            clear HRB Ho8 hr8 hb8 Hb7
            go_wp2_with fail
            refine HBB.out.mono ?_
            rintro e w9 ⟨rfl, hb9⟩
            have Hb9 := Lib.hid (bnext Hb8.out hb9)
            clear HBB hb9
            go_wp2_with fail
            go_roundw
            case rel => exact ⟨i + 1, B, u5, by omega, by go_num, HlB.out, HVc.out.below Hb9.out, ownsRow_below Hxc.out Hb9.out, bnext Hbc.out Hb9.out⟩
            case measure => simp [intOf] <;> omega
          · clear hv
            have hv2 : v > 1000 := by omega
            go_wp2_with fail
            refine (UnaryW_any V bs u v wO HVO.out (by omega)).mono ?_
            rintro e w4 ⟨rfl, u5, hV4, f4⟩
            have Hx4 := Lib.hid (own_keepWtr HVO.out HxO.out (by decide) (by decide) f4)
            have Hb4 := Lib.hid (f4.below HbO.out HVO.out hwV)
            have hrow4 := blk_keepW HVO.out f4 HO.out
            have HV4 := Lib.hid hV4
            have hq1 := cell_of_row w4 O 1 _ _ _ hrow4
            have hq2 := cell_of_row w4 O 2 _ _ _ hrow4
            simp only [List.getElem?_toArray, List.getElem?_cons_zero, List.getElem?_cons_succ] at hq1 hq2
            clear hV4 f4 hrow4 HVO HxO HbO HO hO0 hO1 hO2
            have HRP := Lib.hid ((fun W h h2 => RUnaryL_any u4 bs v w.heap.size W h h2 (by omega)) w4 Hx4.out Hb4.out.size)
            skip
            go_wp2_with fail
            refine HRP.out.mono ?_
            rintro e wc ⟨xv2, rfl, ho2, f2⟩
            have HVc := Lib.hid (HV4.out.keepRow Hx4.out (by decide) (by decide) f2)
            have Hbc := Lib.hid (f2.below Hb4.out Hx4.out (Nat.le_refl _))
            have Hxc := Lib.hid ho2
            clear HRP HV4 Hx4 Hb4 ho2 f2 hq1 hq2
            generalize uwB bs v = B at *
            generalize uwE v = E at *
            have hEE : ((E) != (E)) = false := by simp
            have hLL : ((B.length : Int) != (B.length : Int)) = false := by simp
            have hBl : B.length ≤ 120000 := by have := HlB.out; omega
            have HLn := Lib.hid (Len_any V B u5 wc HVc.out)
            have HBy := Lib.hid (Bytes_any V B u5 wc HVc.out (by omega))
            have HBit := Lib.hid HVc.out.bit
            first | obtain ⟨A6, c6, rfl, -, -, hr6, -⟩ := own_rd4 Hxc.out | (obtain ⟨A6', c6', hsl, -, -, hr6, -⟩ := own_rd4 Hxc.out; injection hsl with hs1 hs2 hs3; rw [← hs1] at hr6; clear hs1 hs2 hs3 c6' A6')
            have Hr6 := Lib.hid hr6
            clear hr6
            go_wp2_with fail
            refine HLn.out.mono ?_
            rintro e w5' ⟨rfl, hw5⟩
            obtain rfl : wc = w5' := hw5.symm
            go_wp2_with fail
            refine HBy.out.mono ?_
            rintro e w6 ⟨A7, c7, rfl, -, -, hr7, -, hb7⟩
            have HRB := Lib.hid (RBytesL_any B HBit.out A6 c6 w6 (Hr6.out.below hb7) (by omega))
            have Hr7 := Lib.hid hr7
            have Hb7 := Lib.hid hb7
            clear HLn HBy hr7 hb7
            go_wp2_with fail
            refine HRB.out.mono ?_
            rintro e w7 ⟨v8, rfl, Ho8, hb8⟩
            obtain ⟨A8, c8, rfl, -, -, hr8, -⟩ := own_rd4 Ho8.out
            have HBB := Lib.hid (bytes_any (pkL B) (pkL B) A7 A8 c7 c8 w7 (Hr7.out.below hb8) hr8 (by rw [pkL_length]; omega))
            rw [decide_eq_true rfl] at HBB
            have Hb8 := Lib.hid (bnext Hb7.out hb8)
            clear HRB Ho8 hr8 hb8 Hb7
            go_wp2_with fail
            refine HBB.out.mono ?_
            rintro e w9 ⟨rfl, hb9⟩
            have Hb9 := Lib.hid (bnext Hb8.out hb9)
            clear HBB hb9
            go_wp2_with fail
            go_roundw
            case rel => exact ⟨i + 1, B, u5, by omega, by go_num, HlB.out, HVc.out.below Hb9.out, ownsRow_below Hxc.out Hb9.out, bnext Hbc.out Hb9.out⟩
            case measure => simp [intOf] <;> omega
      have hb2 : (a == 2) = false := by rw [beq_eq_false_iff_ne]; exact ha2
      by_cases ha3 : a = 3
      · obtain rfl := ha3
        obtain ⟨L, hL⟩ : ∃ L, bs.length = L := ⟨_, rfl⟩
        have HL := Lib.hid hL
        have hal : alN L = (8 - L % 8) % 8 := rfl
        have HAW := Lib.hid (fun W h => AlignW_any V bs u W h (by omega))
        have HlB : Hid ((bs ++ zb (alN L)).length ≤ 2000 * (i + 1)) := by
          show _ ≤ _
          have := Hln.out
          rw [List.length_append, zb_length]; omega
        rw [hL] at HAW HxO hl0
        generalize alN L = K at *
        have hK8 : K ≤ 8 := by omega
        have Hal := Lib.hid hal
        clear hal hL
        go_wp2_with fail
        go_loopw [4, 9] (fun xv nv wr => ∃ j : Nat, j ≤ K ∧ nv = .int .i64 (j : Int) ∧ Hid (wr.ownsRow w.heap.size 3 1 xv (L + j) (iv8 (bs ++ zb j))) ∧ Hid (FrL u4 xv wO wr)) (fun _ nv _ => (K - intOf nv).toNat)
        case atStart => exact ⟨0, Nat.zero_le _, rfl, by show World.ownsRow _ _ _ _ _ _ _; simpa [zb] using HxO.out, FrL.refl _ _⟩
        case round =>
          obtain ⟨j, hj, rfl, Ho, Hf⟩ := hrel
          have hbs : w.heap.size ≤ wr.heap.size := Nat.le_trans HbO.out.size Hf.out.fr.size
          obtain ⟨M, hM⟩ : ∃ M, L + j = M := ⟨_, rfl⟩
          have HM := Lib.hid hM
          rw [hM] at Ho
          clear hM
          obtain ⟨A6, c6, hxv, -, -, -, -⟩ := own_rd4 Ho.out
          subst hxv
          by_cases hjK : j < K
          · have hm : ((M : Int) % 8 != 0) = true := by rw [bne_iff_ne]; have := Hal.out; have := HM.out; omega
            go_wp2_with (at_builtin; refine app1g (n := M) (bytes := 8) rfl _ _ 23 rfl Try.underlying23 info_int1 rfl (by decide) rfl Ho.out hbs rfl rfl (one_int _ _) (by have := HM.out; omega) (by have := HM.out; unfold maxLen; omega) ?_; intro v1 w6 own1 hg6 hat6; have Hown1 := Lib.hid own1; have Hf6 := Lib.hid (Hf.out.trans (frL_grown hg6 hat6)); clear own1 hg6 hat6)
            go_roundw
            case rel => exact ⟨j + 1, by omega, by go_num, by rw [zb_snoc, ← List.append_assoc, iv8_append, ← Nat.add_assoc, HM.out]; exact Hown1.out, Hf6.out⟩
            case measure => simp [intOf] <;> omega
          · obtain rfl : j = K := by omega
            have hm : ((M : Int) % 8 != 0) = false := by rw [bne_eq_false_iff_eq]; have := Hal.out; have := HM.out; omega
            have HV4 := Lib.hid (HVO.out.keepRow HxO.out (by decide) (by decide) Hf.out)
            have Hb4 := Lib.hid (Hf.out.below HbO.out HxO.out (Nat.le_refl _))
            have HA4 := Lib.hid (HAW.out wr HV4.out)
            have HBl : Hid (M = (bs ++ zb j).length) := by show _ = _; rw [List.length_append, zb_length, ← HM.out, ← HL.out]
            have hjj : ((j : Int) != (j : Int)) = false := by simp
            clear HVO HxO HbO HO hO0 hO1 hO2 HAW Hf
            generalize bs ++ zb j = B at *
            go_wp2_with fail
            refine HA4.out.mono ?_
            rintro e wc ⟨rfl, u5, hV5, f5⟩
            have Hxc : Hid (wc.ownsRow w.heap.size 3 1 (.slice A6 M c6) B.length (iv8 B)) := by
              show World.ownsRow _ _ _ _ _ _ _
              rw [← HBl.out]
              exact own_keepWtr HV4.out Ho.out (by decide) (by decide) f5
            have Hbc := Lib.hid (f5.below Hb4.out HV4.out hwV)
            have HVc := Lib.hid hV5
            have hMB := HBl.out
            clear HA4 HV4 Hb4 Ho hV5 f5 hm hjK hj HBl HM Hal HL
            subst hMB
            have hEE : ((0) != (0)) = false := by simp
            have hLL : ((B.length : Int) != (B.length : Int)) = false := by simp
            have hBl : B.length ≤ 120000 := by have := HlB.out; omega
            have HLn := Lib.hid (Len_any V B u5 wc HVc.out)
            have HBy := Lib.hid (Bytes_any V B u5 wc HVc.out (by omega))
            have HBit := Lib.hid HVc.out.bit
            first | obtain ⟨A6, c6, rfl, -, -, hr6, -⟩ := own_rd4 Hxc.out | (obtain ⟨A6', c6', hsl, -, -, hr6, -⟩ := own_rd4 Hxc.out; injection hsl with hs1 hs2 hs3; rw [← hs1] at hr6; clear hs1 hs2 hs3 c6' A6')
            have Hr6 := Lib.hid hr6
            clear hr6
            go_wp2_with fail
            refine HLn.out.mono ?_
            rintro e w5' ⟨rfl, hw5⟩
            obtain rfl : wc = w5' := hw5.symm
            go_wp2_with fail
            refine HBy.out.mono ?_
            rintro e w6 ⟨A7, c7, rfl, -, -, hr7, -, hb7⟩
            have HRB := Lib.hid (RBytesL_any B HBit.out A6 c6 w6 (Hr6.out.below hb7) (by omega))
            have Hr7 := Lib.hid hr7
            have Hb7 := Lib.hid hb7
            clear HLn HBy hr7 hb7
            go_wp2_with fail
            refine HRB.out.mono ?_
            rintro e w7 ⟨v8, rfl, Ho8, hb8⟩
            obtain ⟨A8, c8, rfl, -, -, hr8, -⟩ := own_rd4 Ho8.out
            have HBB := Lib.hid (bytes_any (pkL B) (pkL B) A7 A8 c7 c8 w7 (Hr7.out.below hb8) hr8 (by rw [pkL_length]; omega))
            rw [decide_eq_true rfl] at HBB
            have Hb8 := Lib.hid (bnext Hb7.out hb8)
            clear HRB Ho8 hr8 hb8 Hb7
            go_wp2_with fail
            refine HBB.out.mono ?_
            rintro e w9 ⟨rfl, hb9⟩
            have Hb9 := Lib.hid (bnext Hb8.out hb9)
            clear HBB hb9
            go_wp2_with fail
            go_roundw
            case rel => exact ⟨i + 1, B, u5, by omega, by go_num, HlB.out, HVc.out.below Hb9.out, ownsRow_below Hxc.out Hb9.out, bnext Hbc.out Hb9.out⟩
            case measure => simp [intOf] <;> omega
      have hb3 : (a == 3) = false := by rw [beq_eq_false_iff_ne]; exact ha3
      obtain ⟨x0, hx0⟩ := u8w n
      obtain ⟨x1, hx1⟩ := u8w v
      have HlB : Hid ((bs ++ by8 [x0, x1]).length ≤ 2000 * (i + 1)) := by
        show _ ≤ _
        have := Hln.out
        rw [List.length_append, by8_length]; simp; omega
      have hOl : O < wO.heap.size := (Array.getElem?_eq_some_iff.1 HO.out).1
      have hA2 : (wO.alloc (.cells #[.int .u8 (x0.toNat : Int)] 5)).cell? ⟨O, 2, none⟩ = some (.int .i64 v) := ((bal (Below.refl _ wO) _).cell (p := ⟨O, 2, none⟩) hOl).trans hO2
      have HAp : Hid (Calls Try.prog 28 #[.pointer (some ⟨V, 0, none⟩), .slice (some ⟨wO.heap.size + 1 + 1, 0, none⟩) 2 2] (((wO.alloc (.cells #[.int .u8 (x0.toNat : Int)] 5)).alloc (.cells #[.int .u8 (x1.toNat : Int)] 5)).alloc (.cells #[.slice (some ⟨wO.heap.size, 0, none⟩) 1 1, .slice (some ⟨wO.heap.size + 1, 0, none⟩) 1 1] 22)) (fun e w' => e = .returned (.tuple #[]) ∧ ∃ u', Wtr w' V (bs ++ by8 [x0, x1]) u' ∧ w'.ownsRow w.heap.size 3 1 u4 bs.length (iv8 bs) ∧ Below w.heap.size w w' ∧ w'.heap[O]? = some (.cells #[.int .i64 a, .int .i64 n, .int .i64 v] 47 (0, 0)))) := by
        obtain ⟨wA, hwA⟩ : ∃ wA, (((wO.alloc (.cells #[.int .u8 (x0.toNat : Int)] 5)).alloc (.cells #[.int .u8 (x1.toNat : Int)] 5)).alloc (.cells #[.slice (some ⟨wO.heap.size, 0, none⟩) 1 1, .slice (some ⟨wO.heap.size + 1, 0, none⟩) 1 1] 22)) = wA := ⟨_, rfl⟩
        have hbA : Below wO.heap.size wO wA := by rw [← hwA]; exact bal (bal (bal (Below.refl _ _) _) _) _
        have r0 : wA.heap[wO.heap.size]? = some (.cells #[.int .u8 (x0.toNat : Int)] 5 (0, 0)) := by rw [← hwA]; exact (hrow_alloc (hrow_alloc (heap_alloc_last wO _) _) _)
        have r1 : wA.heap[wO.heap.size + 1]? = some (.cells #[.int .u8 (x1.toNat : Int)] 5 (0, 0)) := by rw [← hwA]; exact heap3_mid _ _ _ _
        have r2 : wA.heap[wO.heap.size + 1 + 1]? = some (.cells #[.slice (some ⟨wO.heap.size, 0, none⟩) 1 1, .slice (some ⟨wO.heap.size + 1, 0, none⟩) 1 1] 22 (0, 0)) := by
          rw [← hwA]
          have := heap_alloc_last ((wO.alloc (.cells #[.int .u8 (x0.toNat : Int)] 5)).alloc (.cells #[.int .u8 (x1.toNat : Int)] 5)) (.cells #[.slice (some ⟨wO.heap.size, 0, none⟩) 1 1, .slice (some ⟨wO.heap.size + 1, 0, none⟩) 1 1] 22)
          simpa using this
        rw [hwA]
        have hlt := HVO.out.lt
        have hVA := HVO.out.below hbA
        have hxA := ownsRow_below HxO.out hbA
        have hbB := bnext HbO.out hbA
        have hOA := hrow_below HO.out hbA
        have hv : ∀ W, Fr (WS V u) wA W → Rd W (some ⟨wO.heap.size + 1 + 1, 0, none⟩) [.slice (some ⟨wO.heap.size, 0, none⟩) 1 1, .slice (some ⟨wO.heap.size + 1, 0, none⟩) 1 1] ∧ ∀ (j : Nat) (x : Value) (y : List UInt8), [Value.slice (some ⟨wO.heap.size, 0, none⟩) 1 1, .slice (some ⟨wO.heap.size + 1, 0, none⟩) 1 1][j]? = some x → [[x0], [x1]][j]? = some y → BS W x y := by
          intro W hW
          have q0 := hW.row r0 (fun h => by have := hlt _ h; omega)
          have q1 := hW.row r1 (fun h => by have := hlt _ h; omega)
          have q2 := hW.row r2 (fun h => by have := hlt _ h; omega)
          refine ⟨?_, ?_⟩
          · intro j x hx
            refine ⟨_, 0, rfl, ?_⟩
            rw [Nat.zero_add, cell_of_row W _ j _ _ _ q2]
            simpa using hx
          · have one : ∀ (H : Nat) (z : UInt8), W.heap[H]? = some (.cells #[.int .u8 (z.toNat : Int)] 5 (0, 0)) → BS W (.slice (some ⟨H, 0, none⟩) 1 1) [z] := by
              intro H z hz
              refine ⟨_, 1, rfl, Nat.le_refl _, ?_⟩
              intro j x hx
              refine ⟨_, 0, rfl, ?_⟩
              rw [Nat.zero_add, cell_of_row W _ j _ _ _ hz]
              simpa [bv] using hx
            intro j x y hx hy
            match j, hx, hy with
            | 0, hx, hy => simp at hx hy; subst hx hy; exact one _ _ q0
            | 1, hx, hy => simp at hx hy; subst hx hy; exact one _ _ q1
        refine (AppendW_any V bs u [[x0], [x1]] _ (some ⟨wO.heap.size + 1 + 1, 0, none⟩) 2 wA hVA rfl hv (by have := Hln.out; simp; omega) (by simp)).mono ?_
        rintro e w' ⟨rfl, u', h1, h2⟩
        exact ⟨rfl, u', h1, own_keepWtr hVA hxA (by decide) (by decide) h2, h2.below hbB hVA hwV, blk_keepW hVA h2 hOA⟩
      have HBt := Lib.hid (fun (W : World) h => RBits_any [x0, x1] (some ⟨W.heap.size, 0, none⟩) 2 (W.alloc (.cells #[.int .u8 (x0.toNat : Int), .int .u8 (x1.toNat : Int)] 5)) h (by simp))
      have HB8 : Hid (bitL [x0, x1] (8 * [x0, x1].length) = by8 [x0, x1]) := bitL_by8 _
      clear HVO HxO HbO HO
      go_wp2_with fail
      refine HAp.out.mono ?_
      rintro e w4 ⟨rfl, u5, hV4, hx4, hb4, hO4⟩
      have hq1 := cell_of_row w4 O 1 _ _ _ hO4
      have hq2 := cell_of_row w4 O 2 _ _ _ hO4
      simp only [List.getElem?_toArray, List.getElem?_cons_zero, List.getElem?_cons_succ] at hq1 hq2
      have HV4 := Lib.hid hV4
      have Hx4 := Lib.hid hx4
      have Hb4 := Lib.hid hb4
      have HBt4 := Lib.hid (HBt.out w4 (by
        intro j x hx
        refine ⟨_, 0, rfl, ?_⟩
        rw [Nat.zero_add, cell_of_row _ _ j _ _ _ (heap_alloc_last w4 _)]
        simpa [bv] using hx))
      clear HAp hA2 hV4 hx4 hb4 hO4 HBt hOl
      go_wp2_with fail
      refine HBt4.out.mono ?_
      rintro e w6 ⟨v6, rfl, ho6, hb6⟩
      have hbw6 : Below w4.heap.size w4 w6 := bnext (bal (Below.refl _ _) _) hb6
      have HV6 := Lib.hid (HV4.out.below hbw6)
      have Hx6 := Lib.hid (ownsRow_below Hx4.out hbw6)
      have Hb6 := Lib.hid (bnext Hb4.out hbw6)
      obtain ⟨A6, c6, rfl, -, -, hr6, hn6⟩ := own_rd4 ho6.out
      have Hr6 := Lib.hid hr6
      have Hn6 := Lib.hid (fun h => (hn6 h).2)
      rw [HB8.out] at Hr6
      obtain ⟨A9, c9, rfl, -, -, -, -⟩ := own_rd4 Hx6.out
      have hbs6 := Hb6.out.size
      have hbl : bs.length ≤ 120000 := by have := Hln.out; omega
      clear HBt4 HV4 Hx4 Hb4 hq1 hq2 ho6 hb6 hbw6 hr6 hn6
      go_upto_region 31 with (at_builtin; refine appNg (n := bs.length) (m := 16) (bytes := 8) rfl _ _ 23 rfl Try.underlying23 info_int1 rfl rfl Hx6.out hbs6 rfl Hr6.out (by rw [iv8_length, by8_length]; rfl) Hn6.out (iv8_one _) (by omega) (by unfold maxLen; omega) ?_; intro xv2 wc own3 fr3; have Hown3 := Lib.hid own3; have HF3 := Lib.hid fr3; clear own3 fr3)
      have HVc := Lib.hid (HV6.out.keepRow Hx6.out (by decide) (by decide) HF3.out)
      have Hbc := Lib.hid (HF3.out.below Hb6.out Hx6.out (Nat.le_refl _))
      have Hxc : Hid (wc.ownsRow w.heap.size 3 1 xv2 (bs ++ by8 [x0, x1]).length (iv8 (bs ++ by8 [x0, x1]))) := by
        show World.ownsRow _ _ _ _ _ _ _
        rw [List.length_append, by8_length, iv8_append]
        exact Hown3.out
      clear HV6 Hx6 Hb6 Hown3 HF3 Hr6 Hn6 HB8
      generalize bs ++ by8 [x0, x1] = B at *
      have hEE : ((0) != (0)) = false := by simp
      have hLL : ((B.length : Int) != (B.length : Int)) = false := by simp
      have hBl : B.length ≤ 120000 := by have := HlB.out; omega
      have HLn := Lib.hid (Len_any V B u5 wc HVc.out)
      have HBy := Lib.hid (Bytes_any V B u5 wc HVc.out (by omega))
      have HBit := Lib.hid HVc.out.bit
      first | obtain ⟨A6, c6, rfl, -, -, hr6, -⟩ := own_rd4 Hxc.out | (obtain ⟨A6', c6', hsl, -, -, hr6, -⟩ := own_rd4 Hxc.out; injection hsl with hs1 hs2 hs3; rw [← hs1] at hr6; clear hs1 hs2 hs3 c6' A6')
      have Hr6 := Lib.hid hr6
      clear hr6
      go_wp2_with fail
      refine HLn.out.mono ?_
      rintro e w5' ⟨rfl, hw5⟩
      obtain rfl : wc = w5' := hw5.symm
      go_wp2_with fail
      refine HBy.out.mono ?_
      rintro e w6 ⟨A7, c7, rfl, -, -, hr7, -, hb7⟩
      have HRB := Lib.hid (RBytesL_any B HBit.out A6 c6 w6 (Hr6.out.below hb7) (by omega))
      have Hr7 := Lib.hid hr7
      have Hb7 := Lib.hid hb7
      clear HLn HBy hr7 hb7
      go_wp2_with fail
      refine HRB.out.mono ?_
      rintro e w7 ⟨v8, rfl, Ho8, hb8⟩
      obtain ⟨A8, c8, rfl, -, -, hr8, -⟩ := own_rd4 Ho8.out
      have HBB := Lib.hid (bytes_any (pkL B) (pkL B) A7 A8 c7 c8 w7 (Hr7.out.below hb8) hr8 (by rw [pkL_length]; omega))
      rw [decide_eq_true rfl] at HBB
      have Hb8 := Lib.hid (bnext Hb7.out hb8)
      clear HRB Ho8 hr8 hb8 Hb7
      go_wp2_with fail
      refine HBB.out.mono ?_
      rintro e w9 ⟨rfl, hb9⟩
      have Hb9 := Lib.hid (bnext Hb8.out hb9)
      clear HBB hb9
      go_wp2_with fail
      go_roundw
      case rel => exact ⟨i + 1, B, u5, by omega, by go_num, HlB.out, HVc.out.below Hb9.out, ownsRow_below Hxc.out Hb9.out, bnext Hbc.out Hb9.out⟩
      case measure => simp [intOf] <;> omega
    · obtain rfl : i = l.length := by omega
      go_wp2_with fail
      refine (awake_any _).mono ?_
      rintro e w13 ⟨rfl, hb13⟩
      have hend := bnext Hb.out hb13
      go_wp2_with fail
      go_ret
      exact ⟨rfl, hend⟩
end Go.Proofs.Ytfncmgojeaeihaa
