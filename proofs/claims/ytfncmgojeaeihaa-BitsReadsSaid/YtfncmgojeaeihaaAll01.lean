/-
  jetsamlaw01.BitsAll: its walk.
-/
import Derived.Test.YtfncmgojeaeihaaBitLaw01
namespace Go.Proofs.Ytfncmgojeaeihaa
open Go.RowKit

theorem tkE_ok {n : Int} {left : Nat} (h : tkE n left = 0) : 0 ≤ n ∧ n ≤ 48 ∧ n ≤ left := by
  unfold tkE at h
  split at h
  · cases h
  · split at h
    · cases h
    · omega
theorem put_take (l : List UInt8) (t : Nat) (n : Int) (h : tkE n (8 * l.length - t) = 0) : ptE n (tkV l t n : Nat) = 0 ∧ ptB (bitL l t) n (tkV l t n : Nat) = bitL l (tkT l t n) := by
  obtain ⟨h1, h2, h3⟩ := tkE_ok h
  have hv : tkV l t n = sg (bitAt l) t n.toNat := if_pos h
  have hlt := sg_lt (bitAt_lt l) t n.toNat
  have hE : ptE n (tkV l t n : Nat) = 0 := by
    rw [ptE, if_neg (by omega), if_neg]
    rw [hv]
    have e : ((2 : Int) ^ n.toNat) = ((2 ^ n.toNat : Nat) : Int) := by simp
    rw [e]
    intro hc
    rcases hc with hc | hc
    · exact absurd hc (Int.not_lt.2 (Int.natCast_nonneg _))
    · exact absurd (Int.ofNat_le.1 hc) (Nat.not_le.2 hlt)
  refine ⟨hE, ?_⟩
  rw [ptB, if_pos hE, hv, Int.toNat_natCast, vb_sg (bitAt_lt l), bitL_add, tkT, if_pos h]

set_option maxRecDepth 100000 in
set_option maxHeartbeats 2000000 in
theorem bitsAll_walk (l : List UInt8) (ns : List Int) (A B : Option Addr) (c d : Nat) (w : World) (hr : Rd w A (bv l)) (hn : A = none → l.length = 0 ∧ c = 0) (hs : Rd w B (zv ns)) :
    Calls Try.prog 3 #[.slice A l.length c, .slice B ns.length d] w fun e w' => e = .returned (.bool true) ∧ Below w.heap.size w w' := by
  have Hr := Lib.hid hr
  have Hs := Lib.hid hs
  clear hr hs
  by_cases h300 : 300 < l.length
  · clear Hr hn Hs
    generalize l.length = m at *
    generalize ns.length = m2 at *
    go_enter Try.func3, Try.ntmps3
    go_wp2_with fail
    refine (awake_any _).mono ?_
    rintro e w1 ⟨rfl, hb1⟩
    go_wp2_with fail
    go_ret
    exact ⟨rfl, hb1⟩
  by_cases h80 : 80 < ns.length
  · clear Hr hn Hs
    generalize l.length = m at *
    generalize ns.length = m2 at *
    go_enter Try.func3, Try.ntmps3
    go_wp2_with fail
    refine (awake_any _).mono ?_
    rintro e w1 ⟨rfl, hb1⟩
    go_wp2_with fail
    go_ret
    exact ⟨rfl, hb1⟩
  have HN := Lib.hid (NewReader_any l A c w Hr.out (by omega) hn)
  have HN2 := Lib.hid (fun (W : World) (hW : Below w.heap.size w W) => NewReader_any l A c W (Hr.out.below hW) (by omega) hn)
  clear hn
  go_enter Try.func3, Try.ntmps3
  go_wp2_with fail
  refine HN.out.mono ?_
  rintro e w1 ⟨R, A', c', rfl, hR, hRw, hRl, hb1⟩
  clear HN
  go_wp2_with fail
  refine (NewWriter_any _).mono ?_
  rintro e w2 ⟨V, rfl, hV, hVw, hVl, hb2⟩
  have hRV : R < V := by omega
  have HA : Hid (∀ k o, A' = some ⟨k, o, none⟩ → 0 < (bv l).length → k < V) := by
    rintro k o rfl h0
    obtain ⟨k', o', e, hc⟩ := hR.rd 0 (bv l)[0] (List.getElem?_eq_getElem h0)
    injection e with e; injection e with e1 e2; subst e1 e2
    have := cell_lt hc
    omega
  have HR2 := Lib.hid (hR.below hb2)
  have HV2 := Lib.hid hV
  have Hb3 := Lib.hid (bnext hb1 hb2)
  have hwV : w.heap.size ≤ V := Nat.le_trans hb1.size hVw
  clear hR hV hb1 hb2 hRl hVl hVw
  go_wp2_with fail
  go_loopw [7] (fun iv wr => ∃ (i t : Nat) (u : Value), iv = .int .i64 (i : Int) ∧ t ≤ 8 * l.length ∧ i ≤ ns.length + t ∧ Hid (Rdr wr R t A' l c') ∧ Hid (Wtr wr V (bitL l t) u) ∧ Hid (Below w.heap.size w wr)) (fun iv _ => 3000 - (intOf iv).toNat)
  case atStart => exact ⟨0, 0, _, rfl, by omega, by omega, HR2.out, HV2.out, Hb3.out⟩
  case round =>
    clear HR2 HV2 Hb3
    obtain ⟨i, t, u, rfl, ht, hi, HR, HV, Hb⟩ := hrel
    have HLf := Lib.hid (Left_any R t A' l.length c' wr HR.out.row ht (by omega))
    go_wp2_with fail
    refine HLf.out.mono ?_
    rintro e w3 ⟨rfl, hb3⟩
    have HR3 := Lib.hid (HR.out.below hb3)
    have HV3 := Lib.hid (HV.out.below hb3)
    have Hb4 := Lib.hid (bnext Hb.out hb3)
    clear HR HV Hb hb3 HLf
    by_cases htl : t < 8 * l.length
    · have hi3 : (i : Int) < 3000 := by omega
      have hl0 : (8 * (l.length : Int) - t) > 0 := by omega
      by_cases hin : i < ns.length
      · obtain ⟨b, o, rfl, hc⟩ := (Hs.out.below Hb4.out) i (.int .i64 ns[i]) (by simp [zv, hin])
        have hii : (i : Int) < ns.length := by omega
        obtain ⟨N, hN⟩ : ∃ N, ns[i] = N := ⟨_, rfl⟩
        rw [hN] at hc
        clear hN
        have Hi1 : Hid (∀ t', t ≤ t' → i + 1 ≤ ns.length + t') := fun t' h => by omega
        have Hi2 : Hid (tkE N (8 * l.length - t) = 0 → i + 1 ≤ ns.length + tkT l t N) := fun h => Hi1.out _ (by rw [tkT, if_pos h]; omega)
        have Hi3 : Hid (i + 1 ≤ ns.length + t) := Hi1.out _ (Nat.le_refl _)
        have HT := Lib.hid (Take_any R t A' l c' (N) w3 HR3.out)
        by_cases hE : tkE (N) (8 * l.length - t) = 0
        · skip
          obtain ⟨p1, p2⟩ := put_take l t (N) hE
          have Hi := Lib.hid (Hi2.out hE)
          rw [hE] at HT
          have HPt : Hid (∀ W : World, Wtr W V (bitL l t) u → Calls Try.prog 14 #[.pointer (some ⟨V, 0, none⟩), .int .i64 (N), .int .i64 (tkV l t (N) : Nat)] W fun e w' => e = .returned (.int .i64 0) ∧ ∃ u', Wtr w' V (bitL l (tkT l t (N))) u' ∧ FrW V u u' W w') := by
            intro W hW
            have h := Put_any V (bitL l t) u (N) (tkV l t (N) : Nat) W hW (by rw [bitL_length]; omega)
            rw [p1, p2] at h
            exact h
          clear p1 p2 hE Hi2
          generalize tkV l t (N) = v at *
          generalize tkT l t (N) = t' at *
          go_wp2_with fail
          refine HT.out.mono ?_
          rintro e w4 ⟨rfl, hR4, f4⟩
          have hV4 := HV3.out.keep f4 (fun k hk e => by have := HV3.out.up k hk; omega)
          have hb4 : Below w.heap.size w w4 := f4.below Hb4.out (fun k hk => by omega)
          have HP2 := Lib.hid (HPt.out w4 hV4)
          go_wp2_with fail
          refine HP2.out.mono ?_
          rintro e w5 ⟨rfl, u5, hV5, f5⟩
          have hR5 := hR4.keep f5.fr (fun h => by have := hV4.up R h; omega) (fun k o e h0 h => by have := hV4.up k h; have := HA.out k o e h0; omega)
          have hb5 := f5.below hb4 hV4 hwV
          go_wp2_with fail
          go_roundw
          case rel => exact ⟨i + 1, t', u5, by go_num, hR4.le, Hi.out, hR5, hV5, hb5⟩
          case measure => simp [intOf] <;> omega
        · have hEE : (tkE (N) (8 * l.length - t) != 0) = true := by rw [bne_iff_ne]; exact hE
          rw [show tkT l t (N) = t from if_neg hE] at HT
          clear hE Hi2
          generalize tkV l t (N) = v at *
          generalize tkE (N) (8 * l.length - t) = E at *
          go_wp2_with fail
          refine HT.out.mono ?_
          rintro e w4 ⟨rfl, hR4, f4⟩
          have hV4 := HV3.out.keep f4 (fun k hk e => by have := HV3.out.up k hk; omega)
          have hb4 : Below w.heap.size w w4 := f4.below Hb4.out (fun k hk => by omega)
          go_wp2_with fail
          go_roundw
          case rel => exact ⟨i + 1, t, u, by go_num, ht, Hi3.out, hR4, hV4, hb4⟩
          case measure => simp [intOf] <;> omega
      · have hii : ¬ (i : Int) < ns.length := by omega
        have Hone : Hid (tkE 1 (8 * l.length - t) = 0) := by show _ = _; rw [tkE, if_neg (by omega), if_neg (by omega)]
        have Hi2 : Hid (tkE 1 (8 * l.length - t) = 0 → i + 1 ≤ ns.length + tkT l t 1) := fun h => by rw [tkT, if_pos h, show (1 : Int).toNat = 1 from rfl]; omega
        have HT := Lib.hid (Take_any R t A' l c' 1 w3 HR3.out)
        have hE := Hone.out
        obtain ⟨p1, p2⟩ := put_take l t (1) hE
        have Hi := Lib.hid (Hi2.out hE)
        rw [hE] at HT
        have HPt : Hid (∀ W : World, Wtr W V (bitL l t) u → Calls Try.prog 14 #[.pointer (some ⟨V, 0, none⟩), .int .i64 (1), .int .i64 (tkV l t (1) : Nat)] W fun e w' => e = .returned (.int .i64 0) ∧ ∃ u', Wtr w' V (bitL l (tkT l t (1))) u' ∧ FrW V u u' W w') := by
          intro W hW
          have h := Put_any V (bitL l t) u (1) (tkV l t (1) : Nat) W hW (by rw [bitL_length]; omega)
          rw [p1, p2] at h
          exact h
        clear p1 p2 hE Hi2
        generalize tkV l t (1) = v at *
        generalize tkT l t (1) = t' at *
        go_wp2_with fail
        refine HT.out.mono ?_
        rintro e w4 ⟨rfl, hR4, f4⟩
        have hV4 := HV3.out.keep f4 (fun k hk e => by have := HV3.out.up k hk; omega)
        have hb4 : Below w.heap.size w w4 := f4.below Hb4.out (fun k hk => by omega)
        have HP2 := Lib.hid (HPt.out w4 hV4)
        go_wp2_with fail
        refine HP2.out.mono ?_
        rintro e w5 ⟨rfl, u5, hV5, f5⟩
        have hR5 := hR4.keep f5.fr (fun h => by have := hV4.up R h; omega) (fun k o e h0 h => by have := hV4.up k h; have := HA.out k o e h0; omega)
        have hb5 := f5.below hb4 hV4 hwV
        go_wp2_with fail
        go_roundw
        case rel => exact ⟨i + 1, t', u5, by go_num, hR4.le, Hi.out, hR5, hV5, hb5⟩
        case measure => simp [intOf] <;> omega
    · obtain rfl : t = 8 * l.length := by omega
      have HL2 := Lib.hid (fun (W : World) (hW : Below w3.heap.size w3 W) => Left_any R (8 * l.length) A' l.length c' W (HR3.out.below hW).row (Nat.le_refl _) (by omega))
      have hz : (8 * (l.length : Int) - ((8 * l.length : Nat) : Int)) = 0 := by omega
      rw [hz] at HL2 ⊢
      clear hz
      go_wp2_with fail
      refine (HL2.out _ (Below.refl _ _)).mono ?_
      rintro e w4 ⟨rfl, hb4⟩
      have HR4 := Lib.hid (HR3.out.below hb4)
      have HV4 := Lib.hid (HV3.out.below hb4)
      have Hb5 := Lib.hid (bnext Hb4.out hb4)
      have HLn := Lib.hid (Len_any V _ _ w4 HV4.out)
      have HBy := Lib.hid (Bytes_any V _ _ w4 HV4.out (by rw [bitL_length]; omega))
      rw [bitL_length] at HLn
      rw [pkL_bitL] at HBy
      have hln : ((8 * l.length : Nat) : Int) = 8 * (l.length : Int) := by omega
      rw [hln] at HLn
      clear HL2 hb4
      go_wp2_with fail
      refine HLn.out.mono ?_
      rintro e w5 ⟨rfl, rfl⟩
      go_wp2_with fail
      refine HBy.out.mono ?_
      rintro e w6 ⟨A1, c1, rfl, -, -, hr1, -, hb6⟩
      have HR6 := Lib.hid (HR4.out.below hb6)
      have Hb6 := Lib.hid (bnext Hb5.out hb6)
      have HBB := Lib.hid (bytes_any l l A1 A c1 c w6 hr1 (Hr.out.below Hb6.out) (by omega))
      rw [decide_eq_true rfl] at HBB
      clear hr1 hb6 HBy HLn
      go_wp2_with fail
      refine HBB.out.mono ?_
      rintro e w7 ⟨rfl, hb7⟩
      have HR7 := Lib.hid (HR6.out.below hb7)
      have Hb7 := Lib.hid (bnext Hb6.out hb7)
      have hSk := Seek_any R _ A' l c' 0 w7 HR7.out
      rw [if_neg (by omega), if_neg (by omega)] at hSk
      have HSk := Lib.hid hSk
      clear HBB hSk
      go_wp2_with fail
      refine HSk.out.mono ?_
      rintro e w8 ⟨rfl, hR8, f8⟩
      have Hb8 : Hid (Below w.heap.size w w8) := f8.below Hb7.out (fun k hk => by omega)
      have HAt := Lib.hid (At_any R _ A' _ c' w8 hR8.row)
      have HR8 := Lib.hid hR8
      clear HSk f8 hR8 hb7
      go_wp2_with fail
      refine HAt.out.mono ?_
      rintro e w9 ⟨rfl, hb9⟩
      have HR9 := Lib.hid (HR8.out.below hb9)
      have Hb9 := Lib.hid (bnext Hb8.out hb9)
      clear HAt hb9
      go_wp2_with fail
      refine (HN2.out _ Hb9.out).mono ?_
      rintro e w10 ⟨X, A2, c2, rfl, hX, hXw, hXl, hb10⟩
      have HR10 := Lib.hid (HR9.out.below hb10)
      have Hb10 := Lib.hid (bnext Hb9.out hb10)
      have hRX : R < X := Nat.lt_of_lt_of_le (Array.getElem?_eq_some_iff.1 HR9.out.row).1 hXw
      have hwX : w.heap.size ≤ X := Nat.le_trans Hb9.out.size hXw
      have HX := Lib.hid hX
      clear hX hb10 hXl hXw
      go_wp2_with fail
      go_loopw [12] (fun iv wr => ∃ (i t : Nat), i ≤ ns.length ∧ iv = .int .i64 (i : Int) ∧ Hid (Rdr wr R t A' l c') ∧ Hid (Rdr wr X t A2 l c2) ∧ Hid (Below w.heap.size w wr)) (fun iv _ => ns.length - (intOf iv).toNat)
      case atStart => exact ⟨0, 0, by omega, rfl, HR10.out, HX.out, Hb10.out⟩
      case round =>
        clear HR10 HX Hb10
        obtain ⟨i, t, hi, rfl, HR, HXx, Hb⟩ := hrel
        by_cases hin : i < ns.length
        · obtain ⟨b, o, rfl, hc⟩ := (Hs.out.below Hb.out) i (.int .i64 ns[i]) (by simp [zv, hin])
          have HC := Lib.hid (fun (W : World) (hW : Below w.heap.size w W) => (Hs.out.below hW) i (.int .i64 ns[i]) (by simp [zv, hin]))
          have hii : (i : Int) < ns.length := by omega
          generalize ns[i] = N at *
          have H1 := Lib.hid (Signed_any R t A' l c' N wr HR.out)
          have H2 := Lib.hid (fun (W : World) (h : Rdr W X t A2 l c2) => Signed_any X t A2 l c2 N W h)
          generalize sdV l t N = v at *
          generalize tkT l t N = t' at *
          generalize tkE N (8 * l.length - t) = E at *
          have hvv : (v != v) = false := by simp
          have hEE : (E != E) = false := by simp
          go_wp2_with fail
          refine H1.out.mono ?_
          rintro e w11 ⟨rfl, hR11, f11⟩
          have hX11 := HXx.out.beside HR.out (by omega) f11
          have hb11 : Below w.heap.size w w11 := f11.below Hb.out (fun k hk => by omega)
          obtain ⟨b2, o2, e2, hc2⟩ := HC.out _ hb11
          injection e2 with e2; injection e2 with e3 e4; subst e3 e4
          have HR11 := Lib.hid hR11
          have H3 := Lib.hid (H2.out _ hX11)
          have HX11 := Lib.hid hX11
          clear hR11 hX11 f11
          go_wp2_with fail
          refine H3.out.mono ?_
          rintro e w12 ⟨rfl, hX12, f12⟩
          have hR12 := HR11.out.beside HX11.out (by omega) f12
          have hb12 : Below w.heap.size w w12 := f12.below hb11 (fun k hk => by omega)
          go_wp2_with fail
          go_roundw
          case rel => exact ⟨i + 1, t', by omega, by go_num, hR12, hX12, hb12⟩
          case measure => simp [intOf] <;> omega
        · obtain rfl : i = ns.length := by omega
          go_wp2_with fail
          refine (awake_any _).mono ?_
          rintro e w13 ⟨rfl, hb13⟩
          have hend := bnext Hb.out hb13
          go_wp2_with fail
          go_ret
          exact ⟨rfl, hend⟩
end Go.Proofs.Ytfncmgojeaeihaa
