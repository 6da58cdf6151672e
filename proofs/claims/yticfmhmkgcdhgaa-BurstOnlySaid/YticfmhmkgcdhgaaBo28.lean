/-
  jetsamlaw18.BurstTwice: its walk.
-/
import Derived.Test.YticfmhmkgcdhgaaBo26
set_option linter.unusedSimpArgs false
set_option linter.unusedVariables false
namespace Go.Proofs.Yticfmhmkgcdhgaa
open Go.RowKit
open Crc (burstB dmg bl bk)

theorem RdB.alloc {w : World} {A : Option Addr} {l : List B3} (h : RdB w A l) (o : Obj) : RdB (w.alloc o) A l := h.below ((Below.refl _ _).alloc (Nat.le_refl _) _)
theorem cellX_one (x : B3) : ∀ u ∈ (#[Value.int .i64 x.a, .int .i64 x.n, .int .i64 x.p] : Array Value).toList, u.oneCell' = true := by
  intro u hu
  simp at hu
  rcases hu with rfl | rfl | rfl <;> rfl

set_option maxRecDepth 100000 in
set_option maxHeartbeats 1000000 in
theorem twice_walk (l : List UInt8) (A : Option Addr) (c : Nat) (most : Int) (m : List UInt8) (B : Option Addr) (d : Nat) (w : World) (hl : Rd w A (bv l)) (hn : A = none → l.length = 0 ∧ c = 0) (hm : Rd w B (bv m)) (hmn : B = none → m.length = 0 ∧ d = 0) :
    Calls Try.prog 7 #[.slice A l.length c, .int .i64 most, .slice B m.length d] w fun e w' => e = .returned (.bool true) ∧ Below w.heap.size w w' := by
  by_cases h1 : (30 : Int) < l.length
  · clear hl hn hm hmn
    go_enter Try.func7, Try.ntmps7
    go_wp2_with fail
    (refine (awake_any _).mono ?_; rintro e w9 ⟨rfl, hb9⟩; go_wp2_with fail; go_ret; exact ⟨rfl, by repeat (first | exact Below.refl _ _ | assumption | refine below_drewN ?_ _ | refine Below.drew ?_ | refine Below.alloc ?_ (Nat.le_refl _) _ | refine bal ?_ _ | refine bnext ?_ (by assumption))⟩)
  by_cases h2 : (20 : Int) < m.length
  · clear hl hn hm hmn
    go_enter Try.func7, Try.ntmps7
    go_wp2_with fail
    (refine (awake_any _).mono ?_; rintro e w9 ⟨rfl, hb9⟩; go_wp2_with fail; go_ret; exact ⟨rfl, by repeat (first | exact Below.refl _ _ | assumption | refine below_drewN ?_ _ | refine Below.drew ?_ | refine Below.alloc ?_ (Nat.le_refl _) _ | refine bal ?_ _ | refine bnext ?_ (by assumption))⟩)
  have HL := Lib.hid (fun W (h : Below w.heap.size w W) => listedB l A c most W (hl.below h) (by omega) hn)
  have HS := Lib.hid (fun W (h : Below w.heap.size w W) => sealed_any m B d W (hm.below h) (by omega) (fun h => (hmn h).2))
  have Hl := Lib.hid (fun W (h : Below w.heap.size w W) => hl.below h)
  have Hn := Lib.hid hn
  clear hl hm hmn hn
  go_enter Try.func7, Try.ntmps7
  go_wp2_with fail
  refine (HL.out _ (Below.refl _ _)).mono ?_
  rintro e w1 ⟨A1, c1, rfl, HR1, hb1⟩
  have hle := allB_length l most
  go_wp2_with fail
  refine (HS.out _ hb1).mono ?_
  rintro e w2 ⟨v2, rfl, hown2, hb2⟩
  obtain ⟨A2, c2, rfl, hc2, hr2, hn2⟩ := own_nilcap hown2
  have hb3 : Below w.heap.size w w2 := bnext hb1 hb2
  have HR1' : Hid (RdB w2 A1 (allB l most)) := HR1.out.below hb2
  have Hone := Lib.hid (bv_one (sealL m))
  have HSl := Lib.hid (bv_length (sealL m))
  rw [sealL_length] at HSl
  have Hone2 := Lib.hid (bv_one l)
  have Hll := Lib.hid (bv_length l)
  have Hr2 := Lib.hid hr2
  have Hn2 := Lib.hid hn2
  have HO := Lib.hid (World.ownsRow_nil w2 w2.heap.size 5 1)
  have Hb3 := Lib.hid hb3
  have Hrl := Lib.hid (Hl.out _ hb3)
  clear hown2 hb1 hb2 hr2 hn2 HR1 hc2
  go_upto_region 7 with (at_builtin; refine appN (w0 := w2) (base := w2.heap.size) rfl _ _ 22 rfl Try.underlying22 info_u8 rfl rfl HO.out (Nat.le_refl _) (Nat.le_refl _) (Below.refl _ _) rfl Hr2.out HSl.out Hn2.out Hone.out (by omega) (by unfold maxLen; omega) ?_; intro v1 w6 own1 hb6 hs6 hnil6; rw [List.nil_append] at own1; have Hown1 := Lib.hid own1; have Hb6 := Lib.hid hb6; clear own1 hb6 hnil6)
  have Hrl6 := Lib.hid (Hrl.out.below Hb6.out)
  go_upto_region 8 with (at_builtin; refine appN (w0 := w2) (base := w2.heap.size) rfl _ _ 22 rfl Try.underlying22 info_u8 rfl rfl Hown1.out (Nat.le_refl _) hs6 Hb6.out rfl Hrl6.out Hll.out (fun h => (Hn.out h).2) Hone2.out (by omega) (by unfold maxLen; omega) ?_; intro v3 w7 own3 hb7 hs7 hnil7; have Hown3 := Lib.hid own3; have Hb7 := Lib.hid hb7; clear own3 hb7 hnil7)
  have hown7 : w7.ownsRow w2.heap.size 5 1 v3 (sealL m ++ l).length (bv (sealL m ++ l)) := by
    have h := Hown3.out
    rw [← bv_append] at h
    rw [List.length_append, sealL_length]
    rw [Nat.zero_add] at h
    exact h
  have Hflt := Lib.hid (allB_ahead (sealL m) l most (sealL_sum m))
  rw [sealL_length] at Hflt
  have hlL : (sealL m ++ l).length = m.length + 2 + l.length := by rw [List.length_append, sealL_length]
  have hlx := allB_length (sealL m ++ l) most
  generalize sealL m ++ l = L at *
  rw [hlL] at hlx
  obtain ⟨A7, c7, rfl, -, -, hr7, hn7⟩ := own_rd4 hown7
  have hb8 : Below w.heap.size w w7 := bnext Hb3.out Hb7.out
  have HL7 := Lib.hid (listedB L A7 c7 most w7 hr7 (by omega) hn7)
  have HR7 : Hid (RdB w7 A1 (allB l most)) := HR1'.out.below Hb7.out
  have Hb8 := Lib.hid hb8
  have HlL := Lib.hid hlL
  have Hlx := Lib.hid hlx
  clear hlL hlx
  clear hown7 Hown3 Hb7 hr7 hn7 Hrl6 Hown1 Hb6 hb3 hb8 HR1' HS Hr2 HO Hone HSl Hrl
  go_wp2_with fail
  refine HL7.out.mono ?_
  rintro e w8 ⟨A8, c8, rfl, HX8, hb9⟩
  have Hb9 : Hid (Below w.heap.size w w8) := bnext Hb8.out hb9
  have HR8 : Hid (RdB w8 A1 (allB l most)) := HR7.out.below hb9
  have Hok := Lib.hid (allB_ok l most)
  obtain ⟨xs, hxs⟩ : ∃ xs, allB L most = xs := ⟨_, rfl⟩
  obtain ⟨ys, hys⟩ : ∃ ys, allB l most = ys := ⟨_, rfl⟩
  rw [hxs] at HX8 Hflt Hlx ⊢
  rw [hys] at HR8 Hflt hle Hok ⊢
  clear hxs hys HL7 hb9 Hb8 HR7 HL
  go_wp2_with fail
  have Hfa := Lib.hid (filter_at xs fun x => decide (8 * (m.length + 2) ≤ x.a))
  have Hfn := Lib.hid (filter_no xs fun x => decide (8 * (m.length + 2) ≤ x.a))
  have HO8 := Lib.hid (World.ownsRow_nil w8 w8.heap.size 28 3)
  have hxl : (xs.length : Int) ≤ 1000 := by have := Hlx.out; omega
  go_loopw [13, 14] (fun v i wr => ∃ k : Nat, k ≤ xs.length ∧ i = .int .i64 k ∧ Hid (wr.ownsRow w8.heap.size 28 3 v ((xs.take k).filter fun x => decide (8 * (m.length + 2) ≤ x.a)).length (((xs.take k).filter fun x => decide (8 * (m.length + 2) ≤ x.a)).flatMap cellX)) ∧ Hid (Below w8.heap.size w8 wr)) (fun _ i _ => xs.length - (intOf i).toNat)
  case atStart => exact ⟨0, by omega, rfl, HO8.out, Below.refl _ _⟩
  case round =>
    obtain ⟨k, hk, rfl, Hown, Hb⟩ := hrel
    by_cases hkk : k < xs.length
    · obtain ⟨b2, o2, rfl, hx0, hx1, hx2⟩ := (HX8.out.below Hb.out) k xs[k] (List.getElem?_eq_getElem hkk)
      have hnl : ((xs.take k).filter fun x => decide (8 * (m.length + 2) ≤ x.a)).length ≤ xs.length := Nat.le_trans (List.length_filter_le _ _) (by simp; omega)
      by_cases hm : (xs[k].a : Int) ≥ 8 * ((m.length : Int) + 2)
      · have Hsn : Hid ((xs.take (k + 1)).filter (fun x => decide (8 * (m.length + 2) ≤ x.a)) = (xs.take k).filter (fun x => decide (8 * (m.length + 2) ≤ x.a)) ++ [xs[k]]) := by
          show _ = _
          rw [List.take_succ_eq_append_getElem hkk, List.filter_append, List.filter_cons_of_pos (by simp; omega)]; rfl
        generalize (xs.take k).filter (fun x => decide (8 * (m.length + 2) ≤ x.a)) = q at *
        generalize xs[k] = x at *
        have hsz := Hb.out.size
        go_wp2_with (at_builtin; refine app1 (w0 := w8) (size := 3) (bytes := 24) rfl _ _ 24 rfl Try.underlying24 info_burst rfl (by decide) rfl Hown.out (Nat.le_refl _) hsz Hb.out rfl rfl (cellX_one x) (by omega) (by unfold maxLen; omega) ?_; intro v1 w9 own1 hb9 hs9; have Hown1 := Lib.hid own1; have Hb9' := Lib.hid hb9; clear own1 hb9)
        go_roundw
        case rel =>
          refine ⟨k + 1, by omega, by go_num, ?_, Hb9'.out⟩
          rw [Hsn.out, List.length_append, List.flatMap_append]
          exact Lib.hid (by simpa [cellX] using Hown1.out)
        case measure => simp [intOf] <;> omega
      · have Hsn : Hid ((xs.take (k + 1)).filter (fun x => decide (8 * (m.length + 2) ≤ x.a)) = (xs.take k).filter (fun x => decide (8 * (m.length + 2) ≤ x.a))) := by
          show _ = _
          rw [List.take_succ_eq_append_getElem hkk, List.filter_append, List.filter_cons_of_neg (by simp; omega)]; simp
        generalize xs[k] = x at *
        go_wp2_with fail
        go_roundw
        case rel => exact ⟨k + 1, by omega, by go_num, by rw [Hsn.out]; exact Hown, Hb⟩
        case measure => simp [intOf] <;> omega
    · obtain rfl : k = xs.length := by omega
      have hown := Hown.out
      rw [List.take_of_length_le (Nat.le_refl _), Hflt.out] at hown
      obtain ⟨A9, c9, hv, hz⟩ := rdB_own hown
      rw [List.length_map] at hv
      subst hv
      have HZ := Lib.hid hz
      have HR9 : Hid (RdB wr A1 ys) := HR8.out.below Hb.out
      have Hb9 : Hid (Below w.heap.size w wr) := bnext Hb9.out Hb.out
      have hyl : (ys.length : Int) ≤ 1000 := by omega
      clear hown hz HR8 HX8 Hfa Hfn HO8 Hown Hflt hxl Hb
      obtain ⟨wo, rfl⟩ : ∃ wo : World, wo = wr := ⟨_, rfl⟩
      go_wp2_with fail
      go_loopw [15, 16, 17, 18, 19] (fun i x16 x17 x18 x19 wr => ∃ k : Nat, k ≤ ys.length ∧ i = .int .i64 k ∧ Hid (Below wo.heap.size wo wr)) (fun i _ _ _ _ _ => ys.length - (intOf i).toNat)
      case atStart => exact ⟨0, by omega, rfl, Below.refl _ _⟩
      case round =>
        obtain ⟨k, hk, rfl, Hb⟩ := hrel
        by_cases hkk : k < ys.length
        · obtain ⟨b1, o1, rfl, hy0, hy1, hy2⟩ := (HR9.out.below Hb.out) k ys[k] (List.getElem?_eq_getElem hkk)
          obtain ⟨b2, o2, rfl, hz0, hz1, hz2⟩ := (HZ.out.below Hb.out) k (shB (8 * (m.length + 2)) ys[k]) (by simp [hkk])
          have hokk := Hok.out _ (List.getElem_mem hkk)
          generalize ys[k] = x at *
          obtain ⟨hbad, hokT⟩ := ok_ck l.length x hokk
          have hxa : (x.a : Int) ≤ 240 := by have := hokk.2.2.2; omega
          have hz0' : wr.cell? ⟨b2, o2 + k * 3, none⟩ = some (.int .i64 ((x.a : Int) + 8 * ((m.length : Int) + 2))) := by rw [hz0]; simp [shB]
          have hz1' : wr.cell? ⟨b2, o2 + k * 3 + 1, none⟩ = some (.int .i64 x.n) := by rw [hz1]; simp [shB]
          have hz2' : wr.cell? ⟨b2, o2 + k * 3 + 2, none⟩ = some (.int .i64 x.p) := by rw [hz2]; simp [shB]
          have Hbad := Lib.hid hbad
          have HokT := Lib.hid hokT
          clear hz0 hz1 hz2 hokk hbad hokT
          have hb0 : Below w.heap.size w wr := bnext Hb9.out Hb.out
          have hX := RdT.two ((wr.alloc (.cells #[.int .i64 x.a, .int .i64 x.n, .int .i64 x.p] 28)).alloc (.cells #[.int .i64 ((x.a : Int) + 8 * ((m.length : Int) + 2)), .int .i64 x.n, .int .i64 x.p] 28)) 28 x
          rw [World.size_alloc, World.size_alloc] at hX
          have HAp := Lib.hid (Apply_any l A c [toT x, toT x] _ 2 _ (Hl.out _ (bal (bal (bal hb0 _) _) _)) (by omega) Hn.out hX (by intro y hy; simp at hy; subst hy; exact HokT.out) (by simp))
          have HY : ∀ i v, (#[Value.int .i64 ((x.a : Int) + 8 * ((m.length : Int) + 2)), .int .i64 x.n, .int .i64 x.p] : Array Value)[i]? = some v → (((wr.alloc (.cells #[.int .i64 x.a, .int .i64 x.n, .int .i64 x.p] 28)).alloc (.cells #[.int .i64 ((x.a : Int) + 8 * ((m.length : Int) + 2)), .int .i64 x.n, .int .i64 x.p] 28)).alloc (.cells #[.int .i64 x.a, .int .i64 x.n, .int .i64 x.p, .int .i64 x.a, .int .i64 x.n, .int .i64 x.p] 28)).cell? ⟨wr.heap.size + 1, i, none⟩ = some v := by
            intro i v hv
            have h := heap_alloc_last (wr.alloc (.cells #[.int .i64 x.a, .int .i64 x.n, .int .i64 x.p] 28)) (.cells #[.int .i64 ((x.a : Int) + 8 * ((m.length : Int) + 2)), .int .i64 x.n, .int .i64 x.p] 28)
            rw [World.size_alloc] at h
            rw [cell_of_row _ _ _ _ _ _ (hrow_alloc h _)]
            exact hv
          have hy0' := HY 0 _ rfl
          have hy1' := HY 1 _ rfl
          have hy2' := HY 2 _ rfl
          have Hbx := Lib.hid (bal (bal (bal (Below.refl _ wr) (.cells #[.int .i64 x.a, .int .i64 x.n, .int .i64 x.p] 28)) (.cells #[.int .i64 ((x.a : Int) + 8 * ((m.length : Int) + 2)), .int .i64 x.n, .int .i64 x.p] 28)) (.cells #[.int .i64 x.a, .int .i64 x.n, .int .i64 x.p, .int .i64 x.a, .int .i64 x.n, .int .i64 x.p] 28))
          have HYc := Lib.hid (And.intro hy0' (And.intro hy1' hy2'))
          clear HY hX hy0' hy1' hy2' hb0
          go_wp2_with fail
          refine HAp.out.mono ?_
          rintro e w4 ⟨hb4, ⟨hbd, rfl⟩ | ⟨-, v4, rfl, Hown4⟩⟩
          · exfalso
            simp [Hbad.out] at hbd
          obtain ⟨A6, c6, rfl, -, -, hr6, -⟩ := own_rd4 Hown4.out
          rw [apL_two] at hr6
          have hbw : Below wr.heap.size wr w4 := bnext Hbx.out hb4
          obtain ⟨hy0', hy1', hy2'⟩ := HYc.out
          have hu0 := (hb4.cell (p := ⟨wr.heap.size + 1, 0, none⟩) (cell_lt hy0')).trans hy0'
          have hu1 := (hb4.cell (p := ⟨wr.heap.size + 1, 1, none⟩) (cell_lt hy1')).trans hy1'
          have hu2 := (hb4.cell (p := ⟨wr.heap.size + 1, 2, none⟩) (cell_lt hy2')).trans hy2'
          have hv0 := (hbw.cell (p := ⟨b2, o2 + k * 3, none⟩) (cell_lt hz0')).trans hz0'
          have hv1 := (hbw.cell (p := ⟨b2, o2 + k * 3 + 1, none⟩) (cell_lt hz1')).trans hz1'
          have hv2 := (hbw.cell (p := ⟨b2, o2 + k * 3 + 2, none⟩) (cell_lt hz2')).trans hz2'
          have Hb4 : Hid (Below wo.heap.size wo w4) := bnext Hb.out hbw
          have hlw : Rd w4 A (bv l) := Hl.out _ (bnext Hb9.out Hb4.out)
          have HBy := Lib.hid (fun q => bytesQ_any l l A6 A c6 c (w4.drewN q) (hr6.drewN q) (hlw.drewN q) (by omega))
          rw [decide_eq_true rfl] at HBy
          generalize (x.a : Int) + 8 * ((m.length : Int) + 2) = z at *
          clear hbw hb4 hy0' hy1' hy2' HYc Hbx hz0' hz1' hz2' HAp Hown4 hr6 hlw hy0 hy1 hy2 Hb
          go_wp2_with fail
          go_quiet ((go_at_call 21; exact Calls.quiet_of (HBy.out _)))
          go_wp2_with fail
          go_roundw
          case rel => exact ⟨k + 1, by omega, by go_num, below_drewN Hb4.out _⟩
          case measure => simp [intOf] <;> omega
        · obtain rfl : k = ys.length := by omega
          have hbf : Below w.heap.size w wr := bnext Hb9.out Hb.out
          go_wp2_with fail
          (refine (awake_any _).mono ?_; rintro e w9 ⟨rfl, hb9⟩; go_wp2_with fail; go_ret; exact ⟨rfl, by repeat (first | exact Below.refl _ _ | assumption | refine below_drewN ?_ _ | refine Below.drew ?_ | refine Below.alloc ?_ (Nat.le_refl _) _ | refine bal ?_ _ | refine bnext ?_ (by assumption))⟩)
end Go.Proofs.Yticfmhmkgcdhgaa
