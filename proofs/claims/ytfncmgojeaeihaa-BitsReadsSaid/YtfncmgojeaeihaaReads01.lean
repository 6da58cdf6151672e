/-
  jetsamlaw01.BitsReads: its walk.
-/
import Derived.Test.YtfncmgojeaeihaaDoes01
import Derived.Test.YtfncmgojeaeihaaTriples
namespace Go.Proofs.Ytfncmgojeaeihaa
open Go.RowKit

set_option maxRecDepth 100000 in
set_option maxHeartbeats 2000000 in
theorem bitsReads_walk (l : List UInt8) (A : Option Addr) (c : Nat) (ls : List T3) (B : Option Addr) (d : Nat) (w : World) (hr : Rd w A (bv l)) (hn : A = none → l.length = 0 ∧ c = 0) (hs : RdT w B ls) :
    Calls Try.prog 5 #[.slice A l.length c, .slice B ls.length d] w fun e w' => e = .returned (.bool true) ∧ Below w.heap.size w w' := by
  have Hr := Lib.hid hr
  have Hs := Lib.hid hs
  clear hr hs
  by_cases h300 : 300 < l.length
  · clear Hr hn Hs
    generalize l.length = m at *
    generalize ls.length = m2 at *
    go_enter Try.func5, Try.ntmps5
    go_wp2_with fail
    refine (awake_any _).mono ?_
    rintro e w1 ⟨rfl, hb1⟩
    go_wp2_with fail
    go_ret
    exact ⟨rfl, hb1⟩
  by_cases h80 : 80 < ls.length
  · clear Hr hn Hs
    generalize l.length = m at *
    generalize ls.length = m2 at *
    go_enter Try.func5, Try.ntmps5
    go_wp2_with fail
    refine (awake_any _).mono ?_
    rintro e w1 ⟨rfl, hb1⟩
    go_wp2_with fail
    go_ret
    exact ⟨rfl, hb1⟩
  have HN := Lib.hid (NewReader_any l A c w Hr.out (by omega) hn)
  have HB := Lib.hid (fun (W : World) (hW : Below w.heap.size w W) => RBits_any l A c W (Hr.out.below hW) (by omega))
  clear hn
  go_enter Try.func5, Try.ntmps5
  go_wp2_with fail
  refine HN.out.mono ?_
  rintro e w1 ⟨R, A', c', rfl, hR, hRw, hRl, hb1⟩
  have HR1 := Lib.hid hR
  have Hb1 := Lib.hid hb1
  clear HN hR hb1
  go_wp2_with fail
  refine (HB.out _ Hb1.out).mono ?_
  rintro e w2 ⟨v2, rfl, Hown, hb2⟩
  obtain ⟨A2, c2, rfl, hc2, -, hr2, -⟩ := own_rd4 Hown.out
  have Hap : Hid (∀ k o, A2 = some ⟨k, o, none⟩ → ¬ k = R ∧ k < w2.heap.size) := by
    rintro k o rfl
    have hl := Hown.out.lt k rfl
    exact ⟨by omega, hl.2⟩
  have HR2 := Lib.hid (HR1.out.below hb2)
  have Hb2 := Lib.hid (bnext Hb1.out hb2)
  have Hr2 := Lib.hid hr2
  have Hc2 := Lib.hid hc2
  have hRl2 : R < w2.heap.size := Nat.lt_of_lt_of_le hRl hb2.size
  have HA1 : Hid (∀ k o, A' = some ⟨k, o, none⟩ → 0 < (bv l).length → k < w2.heap.size) := by
    rintro k o rfl h0
    obtain ⟨k', o', e, hc⟩ := HR1.out.rd 0 (bv l)[0] (List.getElem?_eq_getElem h0)
    injection e with e; injection e with e1 e2; subst e1 e2
    have := cell_lt hc
    have := hb2.size
    omega
  clear HR1 Hb1 hr2 hc2 hb2 HB Hown hRl
  obtain ⟨wX, hwX, HRX, HbX, HXX⟩ : ∃ wX, w2.alloc (.cells #[.slice A2 (8 * l.length) c2, .int .i64 0] 44) = wX ∧ Hid (Rdr wX R 0 A' l c') ∧ Hid (Below w.heap.size w wX) ∧ Hid (RRdr wX w2.heap.size 0 A2 (bitL l (8 * l.length)) c2) :=
    ⟨_, rfl, HR2.out.below (bal (Below.refl _ _) _), bal Hb2.out _, ⟨by rw [bitL_length]; exact heap_alloc_last w2 _, Hr2.out.alloc _, Nat.zero_le _, by rw [bitL_length]; exact Hc2.out, bitL_lt _ _, fun k o h => Nat.ne_of_lt (Hap.out k o h).2, by rw [bitL_length]; omega⟩⟩
  obtain ⟨X, hX⟩ : ∃ X, w2.heap.size = X := ⟨_, rfl⟩
  rw [hX] at HXX HA1 hRl2
  have HX := Lib.hid hX
  have Hap2 : Hid (∀ k o, A2 = some ⟨k, o, none⟩ → ¬ k = R) := fun k o h => (Hap.out k o h).1
  have HA2 : Hid (∀ k o, A' = some ⟨k, o, none⟩ → 0 < (bv l).length → ¬ k = X) := fun k o h h0 => Nat.ne_of_lt (HA1.out k o h h0)
  have hXR : ¬ X = R := by omega
  have hwX2 : w.heap.size ≤ X := by rw [← hX]; exact Hb2.out.size
  clear hX Hap HA1 Hr2 Hc2
  go_upto_region 5 with fail
  rw [HX.out]
  clear hwX HR2 Hb2 HX
  have h80' : (8 * (l.length : Int) - ((0 : Nat) : Int)) = 8 * (l.length : Int) := by omega
  have HLf := Lib.hid (fun W (hW : Below wX.heap.size wX W) => Left_any R 0 A' l.length c' W (HRX.out.below hW).row (by omega) (by omega))
  rw [h80'] at HLf
  clear h80'
  have hll : (8 * (l.length : Int) != 8 * (l.length : Int)) = false := by simp
  go_wp2_with fail
  refine (At_any R 0 A' l.length c' _ HRX.out.row).mono ?_
  rintro e w3 ⟨rfl, hb3⟩
  go_wp2_with fail
  refine (HLf.out _ hb3).mono ?_
  rintro e w4 ⟨rfl, hb4⟩
  have hb34 := bnext hb3 hb4
  have HR4 := Lib.hid (HRX.out.below hb34)
  have HX4 := Lib.hid (HXX.out.below hb34)
  have Hb4 := Lib.hid (bnext HbX.out hb34)
  clear HRX HXX HbX HLf hb3 hb4 hb34
  go_wp2_with fail
  clear hll
  go_loopw [7] (fun iv wr => ∃ (i t : Nat), i ≤ ls.length ∧ iv = .int .i64 (i : Int) ∧ Hid (Rdr wr R t A' l c') ∧ Hid (RRdr wr X t A2 (bitL l (8 * l.length)) c2) ∧ Hid (Below w.heap.size w wr)) (fun iv _ => ls.length - (intOf iv).toNat)
  case atStart => exact ⟨0, 0, by omega, rfl, HR4.out, HX4.out, Hb4.out⟩
  case round =>
    clear HR4 HX4 Hb4
    obtain ⟨i, t, hi, rfl, HR, HXx, Hb⟩ := hrel
    by_cases hin : i < ls.length
    · obtain ⟨b, o, rfl, hc0, hc1, hc2⟩ := (Hs.out.below Hb.out) i ls[i] (List.getElem?_eq_getElem hin)
      have hii : (i : Int) < ls.length := by omega
      obtain ⟨x, hx⟩ : ∃ x, ls[i] = x := ⟨_, rfl⟩
      rw [hx] at hc0 hc1 hc2
      clear hx
      obtain ⟨a, n, v⟩ := x
      simp only at hc0 hc1 hc2
      have HD := Lib.hid (does_any R X t A' A2 l c' c2 a n v wr HR.out HXx.out hXR Hap2.out HA2.out (by omega))
      go_wp2_with fail
      refine HD.out.mono ?_
      rintro e w5 ⟨rfl, t', hR5, hX5, f5⟩
      have hb5 : Below w.heap.size w w5 := f5.below Hb.out (fun k hk => by rcases hk with hk | hk <;> omega)
      go_wp2_with fail
      go_roundw
      case rel => exact ⟨i + 1, t', by omega, by go_num, hR5, hX5, hb5⟩
      case measure => simp [intOf] <;> omega
    · obtain rfl : i = ls.length := by omega
      go_wp2_with fail
      refine (awake_any _).mono ?_
      rintro e w6 ⟨rfl, hb6⟩
      have hend := bnext Hb.out hb6
      go_wp2_with fail
      go_ret
      exact ⟨rfl, hend⟩
end Go.Proofs.Ytfncmgojeaeihaa
