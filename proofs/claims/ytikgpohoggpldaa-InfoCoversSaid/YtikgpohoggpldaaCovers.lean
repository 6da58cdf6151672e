/-
  jetsamlaw11.InfoCovers: its walk. (Printed by wip/gen/covers.py.)
-/
import Derived.Test.YtikgpohoggpldaaMono
import Derived.Test.YtikgpohoggpldaaCovLaw
import Derived.Test.YtikgpohoggpldaaPairRows
namespace Go.Proofs.Ytikgpohoggpldaa
open Go.RowKit

theorem info_piece : (Try.prog.info? 30).map (fun i => (i.zero, i.size, i.bytes)) = some (some (.agg #[.int .i64 0, .int .i64 0]), 2, 16) := by kernel_rfl
theorem one_pair (x y : Int) : ∀ u ∈ (#[Value.int .i64 x, .int .i64 y]).toList, u.oneCell' = true := by intro u hu; simp at hu; rcases hu with rfl | rfl <;> rfl
theorem flatP_pair (x y : Int) : flatP [(x, y)] = (#[Value.int .i64 x, .int .i64 y]).toList := rfl

set_option maxRecDepth 100000 in
set_option maxHeartbeats 1000000 in
theorem infoCovers_walk (p0 p1 p2 : Int) (l : List (Int × Int)) (A : Option Addr) (c : Nat) (w : World) (hr : RdP w A l) (hc : l.length ≤ c) (hlen : l.length ≤ 9223372036854775807) :
    Calls Try.prog 4 #[.agg #[.int .i64 p0, .int .i64 p1, .int .i64 p2], .slice A l.length c] w fun e w' => e = .returned (.bool true) ∧ Below w.heap.size w w' := by
  have Hr := Lib.hid hr; clear hr
  obtain ⟨w0, hw0, hb0, hP⟩ : ∃ w0, w.alloc (.cells #[.int .i64 p0, .int .i64 p1, .int .i64 p2] 23) = w0 ∧ Below w.heap.size w w0 ∧ w0.heap[w.heap.size]? = some (.cells #[.int .i64 p0, .int .i64 p1, .int .i64 p2] 23 (0, 0)) := ⟨_, rfl, by repeat (first | exact Below.refl _ _ | assumption | refine below_drewN ?_ _ | refine Below.drew ?_ | refine Below.alloc ?_ (Nat.le_refl _) _ | refine bal ?_ _ | refine bnext ?_ (by assumption)), heap_alloc_last _ _⟩
  have HP := Lib.hid hP
  have hlt := (Array.getElem?_eq_some_iff.1 hP).1
  clear hP
  go_enter Try.func4, Try.ntmps4
  go_wp2_with fail
  try clear hw0
  have Hr0 : Hid (RdP w0 A l) := Hr.out.below hb0
  refine (few_any l A c w0 Hr0.out hlen).mono ?_
  rintro e w4 ⟨rfl, hb4⟩
  have HP4 : Hid (w4.heap[w.heap.size]? = some (.cells #[.int .i64 p0, .int .i64 p1, .int .i64 p2] 23 (0, 0))) := (hb4.block _ hlt).trans HP.out
  have Hr4 : Hid (RdP w4 A l) := Hr0.out.below hb4
  have hb04 : Below w.heap.size w w4 := bnext hb0 hb4
  have hlt4 : w.heap.size < w4.heap.size := Nat.lt_of_lt_of_le hlt hb4.size
  clear HP Hr0 hb0 hb4 hlt
  have hd0 := cell_of_row w4 w.heap.size 0 _ _ (0, 0) HP4.out
  have hd1 := cell_of_row w4 w.heap.size 1 _ _ (0, 0) HP4.out
  have hd2 := cell_of_row w4 w.heap.size 2 _ _ (0, 0) HP4.out
  obtain ⟨fb, hfb⟩ : ∃ b, fewB l = b := ⟨_, rfl⟩
  rw [hfb]
  have hnil : fb = false ∨ l.length = 0 ∨ (fb = true ∧ 0 < l.length) := by
    cases fb with
    | false => exact .inl rfl
    | true => rcases Nat.eq_zero_or_pos l.length with h | h
              · exact .inr (.inl h)
              · exact .inr (.inr ⟨rfl, h⟩)
  have key : Hid (∀ W : World, Calls Try.prog 13 #[.agg (ofV p0 p1 p2 16 16 0 0 0 (fun _ => 0)), .slice none 0 0] W fun e w' => e = .returned (.int .i64 20) ∧ Below W.heap.size W w') := fun W => covers_any p0 p1 p2 16 16 0 0 0 (fun _ => 0) [] none 0 W (RdP.nil _ _) (by simp) (by simp)
  rcases hnil with hfb' | hn | ⟨rfl, hn⟩
  · subst hfb'
    go_wp2_with fail
    refine (Of_nil p0 p1 p2 (fun _ => 0) none 0 _).mono ?_
    rintro e w5 ⟨rfl, hb5⟩
    go_wp2_with fail
    refine (key.out _).mono ?_
    rintro e w6 ⟨rfl, hb6⟩
    go_wp2_with fail
    refine (awake_any _).mono ?_
    rintro e w7 ⟨rfl, hb7⟩
    go_wp2_with fail
    go_ret
    exact ⟨rfl, bnext (bnext (bnext hb04 hb5) hb6) hb7⟩
  · have h0 : ((l.length : Int) == 0) = true := by rw [beq_iff_eq]; omega
    cases fb with
    | false =>
      go_wp2_with fail
      refine (Of_nil p0 p1 p2 (fun _ => 0) none 0 _).mono ?_
      rintro e w5 ⟨rfl, hb5⟩
      go_wp2_with fail
      refine (key.out _).mono ?_
      rintro e w6 ⟨rfl, hb6⟩
      go_wp2_with fail
      refine (awake_any _).mono ?_
      rintro e w7 ⟨rfl, hb7⟩
      go_wp2_with fail
      go_ret
      exact ⟨rfl, bnext (bnext (bnext hb04 hb5) hb6) hb7⟩
    | true =>
      go_wp2_with fail
      refine (Of_nil p0 p1 p2 (fun _ => 0) none 0 _).mono ?_
      rintro e w5 ⟨rfl, hb5⟩
      go_wp2_with fail
      refine (key.out _).mono ?_
      rintro e w6 ⟨rfl, hb6⟩
      go_wp2_with fail
      refine (awake_any _).mono ?_
      rintro e w7 ⟨rfl, hb7⟩
      go_wp2_with fail
      go_ret
      exact ⟨rfl, bnext (bnext (bnext hb04 hb5) hb6) hb7⟩
  · have h0 : ((l.length : Int) == 0) = false := by rw [beq_eq_false_iff_ne]; omega
    obtain ⟨hf, hok⟩ := (fewB_iff l).1 hfb
    have Hok := Lib.hid hok
    have Hfb := Lib.hid hfb
    clear hfb hok key
    go_wp2_with fail
    go_loopw [5] (fun i wr => ∃ k : Nat, k ≤ l.length ∧ i = .int .i64 k ∧ Below w4.heap.size w4 wr ∧ Hid (∀ j, j < k → 16 ≤ bk l j ∧ bk l j ≤ 65534 ∧ 1 ≤ by' l j ∧ by' l j ≤ 16777214)) (fun i _ => l.length - (intOf i).toNat)
    case atStart => exact ⟨0, by omega, rfl, Below.refl _ _, fun j hj => by omega⟩
    case round =>
      obtain ⟨k, hk, rfl, hb, Hd⟩ := hrel
      by_cases hkk : k < l.length
      · obtain ⟨b, o, rfl, hc1, hc2⟩ := (Hr4.out.below hb) k _ (at_bk l k hkk)
        obtain ⟨o1, o2, o3, o4⟩ := Hok.out (bk l k, by' l k) (List.mem_of_getElem? (at_bk l k hkk))
        have Hs : Hid (16 ≤ bk l k ∧ bk l k ≤ 65534 ∧ 1 ≤ by' l k ∧ by' l k ≤ 16777214 → ∀ j, j < k + 1 → 16 ≤ bk l j ∧ bk l j ≤ 65534 ∧ 1 ≤ by' l j ∧ by' l j ≤ 16777214) := by
          intro h j hj
          rcases Nat.lt_or_ge j k with h1 | h1
          · exact Hd.out j h1
          · obtain rfl : j = k := by omega
            exact h
        generalize bk l k = x at *
        generalize by' l k = y at *
        simp only [] at o1 o2 o3 o4
        have hend : Below w.heap.size w wr := bnext hb04 hb
        by_cases g1 : x < 16
        · go_wp2_with fail
          refine (awake_any _).mono ?_
          rintro e w5 ⟨rfl, hb5⟩
          go_wp2_with fail
          go_ret
          exact ⟨rfl, bnext hend hb5⟩
        by_cases g2 : 65534 < x
        · go_wp2_with fail
          refine (awake_any _).mono ?_
          rintro e w5 ⟨rfl, hb5⟩
          go_wp2_with fail
          go_ret
          exact ⟨rfl, bnext hend hb5⟩
        by_cases g3 : 16777214 < y
        · go_wp2_with fail
          refine (awake_any _).mono ?_
          rintro e w5 ⟨rfl, hb5⟩
          go_wp2_with fail
          go_ret
          exact ⟨rfl, bnext hend hb5⟩
        go_wp2_with fail
        go_roundw
        case rel => exact ⟨k + 1, by omega, by go_num, hb, Hs.out (by omega)⟩
        case measure => simp [intOf] <;> omega
      · obtain rfl : k = l.length := by omega
        have Hc : Hid (okC l) := Hd.out
        clear Hd hkk hk
        have hb8 : Below w.heap.size w wr := bnext hb04 hb
        have HPr : Hid (wr.heap[w.heap.size]? = some (.cells #[.int .i64 p0, .int .i64 p1, .int .i64 p2] 23 (0, 0))) := (hb.block _ hlt4).trans HP4.out
        have Hrr : Hid (RdP wr A l) := Hr4.out.below hb
        clear hd0 hd1 hd2 HP4 Hr4
        have hd0 := cell_of_row wr w.heap.size 0 _ _ (0, 0) HPr.out
        have hd1 := cell_of_row wr w.heap.size 1 _ _ (0, 0) HPr.out
        have hd2 := cell_of_row wr w.heap.size 2 _ _ (0, 0) HPr.out
        go_wp2_with fail
        refine (Of_any p0 p1 p2 (fun _ => 0) l A c _ Hrr.out hc hf Hok.out hn).mono ?_
        rintro e w5 ⟨rfl, hb5⟩
        clear hd0 hd1 hd2
        have C1 := cov_self hn Hc.out
        have C2 := cov_zero hn Hc.out
        have C3 := cov_more (mnP (bk l) (max 1 (l.length - 1))) (mxP (bk l) l.length) (knI (xfP (by' l) l.length)) l
        have C4 := cov_fat hn Hc.out
        have C5 := cov_less hn Hc.out
        have M1 := mx_eq Hc.out
        have M2 : 1 ≤ knI (xfP (by' l) l.length) ∧ knI (xfP (by' l) l.length) ≤ 16777214 := by rw [(xf_eq hn Hc.out).1]; exact (xf_eq hn Hc.out).2
        generalize mnP (bk l) (max 1 (l.length - 1)) = mn at *
        generalize mxP (bk l) l.length = mx at *
        generalize knI (mfP (by' l) l.length) = mf at *
        generalize knI (xfP (by' l) l.length) = xf at *
        generalize ttP (bk l) l.length = tt at *
        have K1 := Lib.hid C1
        have K2 := Lib.hid C2
        have K3 := Lib.hid C3
        have K4 := Lib.hid C4
        have K5 := Lib.hid C5
        clear C1 C2 C3 C4 C5
        obtain ⟨M1, M1'⟩ := M1
        obtain ⟨M2, M2'⟩ := M2
        have Hr5 : Hid (RdP w5 A l) := Hrr.out.below hb5
        have hb9 : Below w.heap.size w w5 := bnext hb8 hb5
        clear Hrr HPr hb hb5 hb8 hb04 hlt4
        simp only [ofV]
        go_step
        go_step
        go_step
        go_step
        refine wpList_store_new rfl 34 _ _ rfl _ rfl rfl rfl (by kernel_rfl) (by rfl) (ofV_one p0 p1 p2 mn mx mf xf tt (fun _ => 0)) ?_
        intro w6 hw6
        have hb6 : Below w.heap.size w w6 := by rw [← hw6]; exact bal hb9 _
        have hb56 : Below w5.heap.size w5 w6 := by rw [← hw6]; exact bal (Below.refl _ _) _
        have hI : InfAt w6 w5.heap.size p0 p1 p2 mn mx mf xf tt fun _ => 0 := by rw [← hw6]; exact InfAt.new (w := w5) (p0 := p0) (p1 := p1) (p2 := p2) (a := mn) (b := mx) (c := mf) (d := xf) (e := tt) (s := fun _ => 0) rfl
        have hg5 := hb9.size
        have hg6 := hI.lt
        have Hr6 : Hid (RdP w6 A l) := Hr5.out.below hb56
        clear hw6 hb56 Hr5 hb9
        generalize w5.heap.size = g5 at *
        have HI' : Hid (w6.heap[g5]? = some (.cells #[.int .i64 p0, .int .i64 p1, .int .i64 p2, .int .i64 mn, .int .i64 mx, .int .i64 mf, .int .i64 xf, .int .i64 tt, .int .u8 0, .int .u8 0, .int .u8 0, .int .u8 0, .int .u8 0, .int .u8 0, .int .u8 0, .int .u8 0, .int .u8 0, .int .u8 0, .int .u8 0, .int .u8 0, .int .u8 0, .int .u8 0, .int .u8 0, .int .u8 0] 34 (0, 0))) := hI
        have HI := Lib.hid hI
        clear hI
        go_upto_region 10 with (first | (refine wpList_load_row rfl 34 _ rfl g5 rfl 34 #[.int .i64 p0, .int .i64 p1, .int .i64 p2, .int .i64 mn, .int .i64 mx, .int .i64 mf, .int .i64 xf, .int .i64 tt, .int .u8 0, .int .u8 0, .int .u8 0, .int .u8 0, .int .u8 0, .int .u8 0, .int .u8 0, .int .u8 0, .int .u8 0, .int .u8 0, .int .u8 0, .int .u8 0, .int .u8 0, .int .u8 0, .int .u8 0, .int .u8 0] (0, 0) _ HI'.out Try.underlying34 rfl (by kernel_rfl) ?_) | (refine wpList_store_new rfl 34 _ _ rfl _ rfl rfl rfl (by kernel_rfl) (by rfl) (ofV_one p0 p1 p2 mn mx mf xf tt (fun _ => 0)) ?_; intro w7 hw7))
        have hb7 : Below w.heap.size w w7 := by rw [← hw7]; exact bal hb6 _
        have hb67 : Below w6.heap.size w6 w7 := by rw [← hw7]; exact bal (Below.refl _ _) _
        have hK : InfAt w7 w6.heap.size p0 p1 p2 mn mx mf xf tt fun _ => 0 := by rw [← hw7]; exact InfAt.new (w := w6) (p0 := p0) (p1 := p1) (p2 := p2) (a := mn) (b := mx) (c := mf) (d := xf) (e := tt) (s := fun _ => 0) rfl
        have hI7 : InfAt w7 g5 p0 p1 p2 mn mx mf xf tt fun _ => 0 := (hb67.block _ hg6).trans HI.out
        have Hr7 : Hid (RdP w7 A l) := Hr6.out.below hb67
        have hg7 := hK.lt
        have hgs := hb6.size
        have hne : g5 ≠ w6.heap.size := by omega
        clear hw7 hb67 Hr6 HI HI' hb6
        generalize w6.heap.size = g6 at *
        have hj5 := hK.cell 5 (.int .i64 mf) rfl
        have hj6 := hK.cell 6 (.int .i64 xf) rfl
        have hj7 := hK.cell 7 (.int .i64 tt) rfl
        have hk5 := hK.fr 5
        have hk6 := hK.fr 6
        have hk7 := hK.fr 7
        have HK := Lib.hid hK
        have HI7 := Lib.hid hI7
        clear hK hI7
        go_upto_region 13 with fail
        clear hj5 hj6 hj7 hk5 hk6 hk7
        have hb8 : Below w.heap.size w (((w7.setCell ⟨g6, 5, none⟩ (.int .i64 0)).setCell ⟨g6, 6, none⟩ (.int .i64 0)).setCell ⟨g6, 7, none⟩ (.int .i64 0)) := ((hb7.setCell hgs _).setCell hgs _).setCell hgs _
        have hK8 : InfAt (((w7.setCell ⟨g6, 5, none⟩ (.int .i64 0)).setCell ⟨g6, 6, none⟩ (.int .i64 0)).setCell ⟨g6, 7, none⟩ (.int .i64 0)) g6 p0 p1 p2 mn mx 0 0 0 fun _ => 0 := ((HK.out.set5 0).set6 0).set7 0
        have hI8 : InfAt (((w7.setCell ⟨g6, 5, none⟩ (.int .i64 0)).setCell ⟨g6, 6, none⟩ (.int .i64 0)).setCell ⟨g6, 7, none⟩ (.int .i64 0)) g5 p0 p1 p2 mn mx mf xf tt fun _ => 0 := ((HI7.out.other _ _ hne).other _ _ hne).other _ _ hne
        generalize ((w7.setCell ⟨g6, 5, none⟩ (.int .i64 0)).setCell ⟨g6, 6, none⟩ (.int .i64 0)).setCell ⟨g6, 7, none⟩ (.int .i64 0) = w8 at *
        obtain ⟨b, o, rfl, -, -⟩ := Hr.out 0 _ (at_bk l 0 hn)
        have hg58 := hI8.lt
        have hg68 := hK8.lt
        have FI : Hid (∀ W, Below w8.heap.size w8 W → InfAt W g5 p0 p1 p2 mn mx mf xf tt fun _ => 0) := fun W hW => (hW.block _ hg58).trans hI8
        have FK : Hid (∀ W, Below w8.heap.size w8 W → InfAt W g6 p0 p1 p2 mn mx 0 0 0 fun _ => 0) := fun W hW => (hW.block _ hg68).trans hK8
        have FR : Hid (∀ W, Below w8.heap.size w8 W → RdP W (some ⟨b, o, none⟩) l) := fun W hW => (Hr.out.below hb8).below hW
        clear hI8 hK8 HK HI7 Hr7 hb7 hg7 hgs hne hg58 hg68 hg5 hg6
        have hl1 : l.length ≤ 100 := hf
        go_upto_region 15 with (at_builtin; refine appP (w0 := w8) rfl _ _ 25 rfl Try.underlying25 info_piece rfl rfl (World.ownsRow_nil w8 w8.heap.size _ 2) (Nat.le_refl _) (Nat.le_refl _) (Below.refl _ _) rfl rfl (FR.out _ (Below.refl _ _)) (by omega) (by unfold maxLen; omega) ?_; intro m1 w9 own9 hb9 hs9 hgr9 hat9)
        have Own9 := Lib.hid own9
        clear own9 hgr9 hat9
        have hj4 := (FI.out _ hb9).cell 4 (.int .i64 mx) rfl
        have hj6 := (FI.out _ hb9).cell 6 (.int .i64 xf) rfl
        go_upto_region 17 with (at_builtin; refine app1o (w0 := w8) rfl _ _ 25 rfl Try.underlying25 info_piece rfl (by decide) rfl Own9.out (Nat.le_refl _) hs9 hb9 rfl rfl (one_pair _ _) (by omega) (by unfold maxLen; omega) ?_; intro m2 w10 own10 hb10 hs10 hgr10 hat10)
        have Own10 : Hid (w10.ownsRow w8.heap.size 30 2 m2 (0 + l.length + 1) (flatP (l ++ [(mx + 1, xf)]))) := by
          show World.ownsRow _ _ _ _ _ _ _
          rw [flatP_append, flatP_pair]
          exact own10
        clear own10 hgr10 hat10 Own9 hj4 hj6 hb9 hs9
        go_upto_region 18 with (at_builtin; refine appP (w0 := w8) rfl _ _ 25 rfl Try.underlying25 info_piece rfl rfl (World.ownsRow_nil w10 w8.heap.size _ 2) (Nat.le_refl _) hs10 hb10 rfl rfl (FR.out _ hb10) (by omega) (by unfold maxLen; omega) ?_; intro m3 w11 own11 hb11 hs11 hgr11 hat11)
        have Kp := row_kept0 Own10.out (apart_nil m2) hgr11 hat11
        have Own11 := Lib.hid own11
        have Own11' := Lib.hid Kp.1
        have Ap := Lib.hid Kp.2
        clear own11 hgr11 hat11 Kp Own10 hb10 hs10
        have hj4 := (FI.out _ hb11).cell 4 (.int .i64 mx) rfl
        have hj6 := (FI.out _ hb11).cell 6 (.int .i64 xf) rfl
        go_upto_region 19 with (at_builtin; refine app1o (w0 := w8) rfl _ _ 25 rfl Try.underlying25 info_piece rfl (by decide) rfl Own11.out (Nat.le_refl _) hs11 hb11 rfl rfl (one_pair _ _) (by omega) (by unfold maxLen; omega) ?_; intro m4 w12 own12 hb12 hs12 hgr12 hat12)
        have Kp := row_kept Own11'.out Ap.out hgr12 hat12
        have Own12' := Lib.hid Kp.1
        have Own12 : Hid (w12.ownsRow w8.heap.size 30 2 m4 (0 + l.length + 1) (flatP (l ++ [(mx, xf + 1)]))) := by
          show World.ownsRow _ _ _ _ _ _ _
          rw [flatP_append, flatP_pair]
          exact own12
        clear own12 hgr12 hat12 Kp Own11 Own11' Ap hj4 hj6 hb11 hs11
        obtain ⟨Am, cm, rfl, hcm, hrm⟩ := own_rdP Own12'.out
        obtain ⟨Af, cf, rfl, hcf, hrf⟩ := own_rdP Own12.out
        have hlm : (l ++ [(mx + 1, xf)]).length = l.length + 1 := by simp
        have hlf : (l ++ [(mx, xf + 1)]).length = l.length + 1 := by simp
        rw [hlm, hlf]
        have V0 : Hid (∀ W, Below w12.heap.size w12 W → Calls Try.prog 13 #[.agg (ofV p0 p1 p2 mn mx mf xf tt fun _ => 0), .slice (some ⟨b, o, none⟩) l.length c] W fun e w' => e = .returned (.int .i64 0) ∧ Below W.heap.size W w') := fun W hW => by
          have := covers_any p0 p1 p2 mn mx mf xf tt (fun _ => 0) l _ c W ((FR.out _ hb12).below hW) (by omega) Hok.out
          rwa [K1.out] at this
        have V1 : Hid (∀ W, Below w12.heap.size w12 W → Calls Try.prog 13 #[.agg (ofV p0 p1 p2 mn mx 0 0 0 fun _ => 0), .slice (some ⟨b, o, none⟩) l.length c] W fun e w' => e = .returned (.int .i64 0) ∧ Below W.heap.size W w') := fun W hW => by
          have := covers_any p0 p1 p2 mn mx 0 0 0 (fun _ => 0) l _ c W ((FR.out _ hb12).below hW) (by omega) Hok.out
          rwa [K2.out] at this
        have okM : ∀ x ∈ l ++ [(mx + 1, xf)], okP x := by
          intro x hx
          rcases List.mem_append.1 hx with h | h
          · exact Hok.out x h
          · rw [List.mem_singleton.1 h]; exact ⟨by simp only []; omega, by simp only []; omega, by simp only []; omega, by simp only []; omega⟩
        have okF : ∀ x ∈ l ++ [(mx, xf + 1)], okP x := by
          intro x hx
          rcases List.mem_append.1 hx with h | h
          · exact Hok.out x h
          · rw [List.mem_singleton.1 h]; exact ⟨by simp only []; omega, by simp only []; omega, by simp only []; omega, by simp only []; omega⟩
        have V2 : Hid (∀ W, Below w12.heap.size w12 W → Calls Try.prog 13 #[.agg (ofV p0 p1 p2 mn mx 0 0 0 fun _ => 0), .slice Am (l.length + 1) cm] W fun e w' => e = .returned (.int .i64 22) ∧ Below W.heap.size W w') := fun W hW => by
          have := covers_any p0 p1 p2 mn mx 0 0 0 (fun _ => 0) (l ++ [(mx + 1, xf)]) Am cm W (hrm.below hW) (by omega) okM
          rwa [K3.out, hlm] at this
        have V3 : Hid (∀ W, Below w12.heap.size w12 W → Calls Try.prog 13 #[.agg (ofV p0 p1 p2 mn mx mf xf tt fun _ => 0), .slice Af (l.length + 1) cf] W fun e w' => e = .returned (.int .i64 22) ∧ Below W.heap.size W w') := fun W hW => by
          have := covers_any p0 p1 p2 mn mx mf xf tt (fun _ => 0) (l ++ [(mx, xf + 1)]) Af cf W (hrf.below hW) (by omega) okF
          rwa [K4.out, hlf] at this
        have V4 : Hid (2 ≤ l.length → ∀ W, Below w12.heap.size w12 W → Calls Try.prog 13 #[.agg (ofV p0 p1 p2 mn mx mf xf tt fun _ => 0), .slice (some ⟨b, o, none⟩) (l.length - 1) c] W fun e w' => e = .returned (.int .i64 22) ∧ Below W.heap.size W w') := fun h2 W hW => by
          have hl : (l.take (l.length - 1)).length = l.length - 1 := by simp
          have := covers_any p0 p1 p2 mn mx mf xf tt (fun _ => 0) (l.take (l.length - 1)) (some ⟨b, o, none⟩) c W (((FR.out _ hb12).below hW).take _) (by omega) (fun x hx => Hok.out x (List.mem_of_mem_take hx))
          rwa [K5.out h2, hl] at this
        have hb812 : Below w.heap.size w w12 := bnext hb8 hb12
        have GI : Hid (∀ W, Below w12.heap.size w12 W → W.heap[g5]? = some (.cells #[.int .i64 p0, .int .i64 p1, .int .i64 p2, .int .i64 mn, .int .i64 mx, .int .i64 mf, .int .i64 xf, .int .i64 tt, .int .u8 0, .int .u8 0, .int .u8 0, .int .u8 0, .int .u8 0, .int .u8 0, .int .u8 0, .int .u8 0, .int .u8 0, .int .u8 0, .int .u8 0, .int .u8 0, .int .u8 0, .int .u8 0, .int .u8 0, .int .u8 0] 34 (0, 0))) := fun W hW => FI.out W (bnext hb12 hW)
        have GK : Hid (∀ W, Below w12.heap.size w12 W → W.heap[g6]? = some (.cells #[.int .i64 p0, .int .i64 p1, .int .i64 p2, .int .i64 mn, .int .i64 mx, .int .i64 0, .int .i64 0, .int .i64 0, .int .u8 0, .int .u8 0, .int .u8 0, .int .u8 0, .int .u8 0, .int .u8 0, .int .u8 0, .int .u8 0, .int .u8 0, .int .u8 0, .int .u8 0, .int .u8 0, .int .u8 0, .int .u8 0, .int .u8 0, .int .u8 0] 34 (0, 0))) := fun W hW => FK.out W (bnext hb12 hW)
        clear Own12 Own12' hrm hrf okM okF FI FK FR hb12 hs12 hb8 K1 K2 K3 K4 K5 Hok Hr Hc hcm hcf hlm hlf Hfb
        have hq0 : Below w12.heap.size w12 w12 := Below.refl _ _
        go_wp2_with (refine wpList_load_row_g (by rfl) 34 _ rfl g5 rfl 34 #[.int .i64 p0, .int .i64 p1, .int .i64 p2, .int .i64 mn, .int .i64 mx, .int .i64 mf, .int .i64 xf, .int .i64 tt, .int .u8 0, .int .u8 0, .int .u8 0, .int .u8 0, .int .u8 0, .int .u8 0, .int .u8 0, .int .u8 0, .int .u8 0, .int .u8 0, .int .u8 0, .int .u8 0, .int .u8 0, .int .u8 0, .int .u8 0, .int .u8 0] (0, 0) _ (GI.out _ hq0) Try.underlying34 rfl (by kernel_rfl) ?_)
        refine (V0.out _ hq0).mono ?_
        rintro e w13 ⟨rfl, hb13⟩
        have hq1 := bnext hq0 hb13
        go_wp2_with (refine wpList_load_row_g (by rfl) 34 _ rfl g6 rfl 34 #[.int .i64 p0, .int .i64 p1, .int .i64 p2, .int .i64 mn, .int .i64 mx, .int .i64 0, .int .i64 0, .int .i64 0, .int .u8 0, .int .u8 0, .int .u8 0, .int .u8 0, .int .u8 0, .int .u8 0, .int .u8 0, .int .u8 0, .int .u8 0, .int .u8 0, .int .u8 0, .int .u8 0, .int .u8 0, .int .u8 0, .int .u8 0, .int .u8 0] (0, 0) _ (GK.out _ hq1) Try.underlying34 rfl (by kernel_rfl) ?_)
        refine (V1.out _ hq1).mono ?_
        rintro e w14 ⟨rfl, hb14⟩
        have hq2 := bnext hq1 hb14
        go_wp2_with (refine wpList_load_row_g (by rfl) 34 _ rfl g6 rfl 34 #[.int .i64 p0, .int .i64 p1, .int .i64 p2, .int .i64 mn, .int .i64 mx, .int .i64 0, .int .i64 0, .int .i64 0, .int .u8 0, .int .u8 0, .int .u8 0, .int .u8 0, .int .u8 0, .int .u8 0, .int .u8 0, .int .u8 0, .int .u8 0, .int .u8 0, .int .u8 0, .int .u8 0, .int .u8 0, .int .u8 0, .int .u8 0, .int .u8 0] (0, 0) _ (GK.out _ hq2) Try.underlying34 rfl (by kernel_rfl) ?_)
        refine (V2.out _ hq2).mono ?_
        rintro e w15 ⟨rfl, hb15⟩
        have hq3 := bnext hq2 hb15
        go_wp2_with (refine wpList_load_row_g (by rfl) 34 _ rfl g5 rfl 34 #[.int .i64 p0, .int .i64 p1, .int .i64 p2, .int .i64 mn, .int .i64 mx, .int .i64 mf, .int .i64 xf, .int .i64 tt, .int .u8 0, .int .u8 0, .int .u8 0, .int .u8 0, .int .u8 0, .int .u8 0, .int .u8 0, .int .u8 0, .int .u8 0, .int .u8 0, .int .u8 0, .int .u8 0, .int .u8 0, .int .u8 0, .int .u8 0, .int .u8 0] (0, 0) _ (GI.out _ hq3) Try.underlying34 rfl (by kernel_rfl) ?_)
        refine (V3.out _ hq3).mono ?_
        rintro e w16 ⟨rfl, hb16⟩
        have hq4 := bnext hq3 hb16
        clear hq0 hq1 hq2 hq3 hb13 hb14 hb15 hb16
        go_wp2_with fail
        have e2 : IntKind.i64.wrap ((l.length : Int) - 1) = ((l.length - 1 : Nat) : Int) := by rw [IntKind.wrap_i64]; omega
        by_cases h2 : l.length < 2
        · have hd2 : decide ((l.length : Int) < 2) = true := by rw [decide_eq_true_iff]; omega
          refine wp_region_specs [
            Spec.val (.slice (some ⟨b, o, none⟩) l.length c),
            Spec.val (.int .i64 l.length),
            Spec.val (.bool true),
            Spec.val (.bool true),
            Spec.val (undef),
            Spec.val (undef),
            Spec.val (undef),
            Spec.val (undef),
            Spec.val (undef),
            Spec.val (undef),
            Spec.val (undef),
            Spec.val (undef),
            Spec.val ((Value.bool true)),
            Spec.val ((Value.bool true)),
            Spec.val (.bool true),
            Spec.val (.bool true),
            Spec.val (.bool true)] w16 (by kernel_rfl) (by repeat (first | exact Below.refl _ _ | assumption | refine below_drewN ?_ _ | refine Below.drew ?_ | refine Below.alloc ?_ (Nat.le_refl _) _ | refine bal ?_ _ | refine bnext ?_ (by assumption))) (n := 125) rfl (by decide +kernel) ⟨?_, ?_, ?_, ?_, ?_, ?_, ?_, ?_, ?_, ?_, ?_, ?_, ?_, ?_, ?_, ?_, ?_, trivial⟩ ?_
          · intro a wd hJ hfr hdep
            have s1 : a.tmps.getD 1 undef = .slice (some ⟨b, o, none⟩) l.length c := (hfr 1 (by decide)).trans rfl
            have s1' := slot' s1
            clear hfr hdep
            refine if_wanted rfl (fun Q => op_any (fun K hK => ?_))
            go_simp
            exact hK _ _ rfl hJ (Below.refl _ _)
          · intro a wd hJ hfr hdep
            have s109 : a.tmps.getD 109 undef = .slice (some ⟨b, o, none⟩) l.length c := hdep 0 _ 109 (by decide) rfl rfl
            have s109' := slot' s109
            clear hfr hdep
            refine if_wanted rfl (fun Q => op_any (fun K hK => ?_))
            go_simp
            exact hK _ _ rfl hJ (Below.refl _ _)
          · intro a wd hJ hfr hdep
            have s110 : a.tmps.getD 110 undef = .int .i64 l.length := hdep 1 _ 110 (by decide) rfl rfl
            have s110' := slot' s110
            clear hfr hdep
            refine if_wanted rfl (fun Q => op_any (fun K hK => ?_))
            go_simp
            exact hK _ _ rfl hJ (Below.refl _ _)
          · intro a wd hJ hfr hdep
            have s111 : a.tmps.getD 111 undef = .bool true := hdep 2 _ 111 (by decide) rfl rfl
            have s111' := slot' s111
            clear hfr hdep
            refine if_wanted rfl (fun Q => op_any (fun K hK => ?_))
            go_simp
            exact hK _ _ rfl hJ (Below.refl _ _)
          · intro a wd hJ hfr hdep
            have sg : a.tmps.getD 112 undef = .bool true := hdep 3 _ 112 (by decide) rfl rfl
            exact if_unwanted (wanted_no rfl rfl rfl sg (by decide)) rfl
          · intro a wd hJ hfr hdep
            have sg : a.tmps.getD 112 undef = .bool true := hdep 3 _ 112 (by decide) rfl rfl
            exact if_unwanted (wanted_no rfl rfl rfl sg (by decide)) rfl
          · intro a wd hJ hfr hdep
            have sg : a.tmps.getD 112 undef = .bool true := hdep 3 _ 112 (by decide) rfl rfl
            exact if_unwanted (wanted_no rfl rfl rfl sg (by decide)) rfl
          · intro a wd hJ hfr hdep
            have sg : a.tmps.getD 112 undef = .bool true := hdep 3 _ 112 (by decide) rfl rfl
            exact if_unwanted (wanted_no rfl rfl rfl sg (by decide)) rfl
          · intro a wd hJ hfr hdep
            have sg : a.tmps.getD 112 undef = .bool true := hdep 3 _ 112 (by decide) rfl rfl
            exact if_unwanted (wanted_no rfl rfl rfl sg (by decide)) rfl
          · intro a wd hJ hfr hdep
            have sg : a.tmps.getD 112 undef = .bool true := hdep 3 _ 112 (by decide) rfl rfl
            exact if_unwanted (wanted_no rfl rfl rfl sg (by decide)) rfl
          · intro a wd hJ hfr hdep
            have sg : a.tmps.getD 112 undef = .bool true := hdep 3 _ 112 (by decide) rfl rfl
            exact if_unwanted (wanted_no rfl rfl rfl sg (by decide)) rfl
          · intro a wd hJ hfr hdep
            have sg : a.tmps.getD 112 undef = .bool true := hdep 3 _ 112 (by decide) rfl rfl
            exact if_unwanted (wanted_no rfl rfl rfl sg (by decide)) rfl
          · intro a wd hJ hfr hdep
            have s112 : a.tmps.getD 112 undef = .bool true := hdep 3 _ 112 (by decide) rfl rfl
            have s120 : a.tmps.getD 120 undef = undef := hdep 11 _ 120 (by decide) rfl rfl
            have s112' := slot' s112
            have s120' := slot' s120
            clear hfr hdep
            refine if_wanted rfl (fun Q => op_any (fun K hK => ?_))
            go_simp
            exact hK _ _ rfl hJ (Below.refl _ _)
          · intro a wd hJ hfr hdep
            have s121 : a.tmps.getD 121 undef = (Value.bool true) := hdep 12 _ 121 (by decide) rfl rfl
            have s121' := slot' s121
            clear hfr hdep
            refine if_wanted rfl (fun Q => op_any (fun K hK => ?_))
            go_simp
            exact hK _ _ rfl hJ (Below.refl _ _)
          · intro a wd hJ hfr hdep
            have sg : a.tmps.getD 122 undef = .bool true := hdep 13 _ 122 (by decide) rfl rfl
            clear hfr hdep
            refine if_wanted (wanted_yes rfl rfl rfl sg) (fun Q => op_any (fun K hK => ?_))
            go_simp
            refine (awake_any _).mono ?_
            rintro e w1 ⟨rfl, hb1⟩
            exact hK _ _ rfl (bnext hJ hb1) hb1
          · intro a wd hJ hfr hdep
            have s122 : a.tmps.getD 122 undef = (Value.bool true) := hdep 13 _ 122 (by decide) rfl rfl
            have s123 : a.tmps.getD 123 undef = .bool true := hdep 14 _ 123 (by decide) rfl rfl
            have s122' := slot' s122
            have s123' := slot' s123
            clear hfr hdep
            refine if_wanted rfl (fun Q => op_any (fun K hK => ?_))
            go_simp
            exact hK _ _ rfl hJ (Below.refl _ _)
          · intro a wd hJ hfr hdep
            have s124 : a.tmps.getD 124 undef = .bool true := hdep 15 _ 124 (by decide) rfl rfl
            have s124' := slot' s124
            clear hfr hdep
            refine if_wanted rfl (fun Q => op_any (fun K hK => ?_))
            go_simp
            exact hK _ _ rfl hJ (Below.refl _ _)
          intro f w' hJ hR
          have e0 : f 0 = .slice (some ⟨b, o, none⟩) l.length c := hR 0 (by decide)
          have e1 : f 1 = .int .i64 l.length := hR 1 (by decide)
          have e2 : f 2 = .bool true := hR 2 (by decide)
          have e3 : f 3 = .bool true := hR 3 (by decide)
          have e4 : f 4 = undef := hR 4 (by decide)
          have e5 : f 5 = undef := hR 5 (by decide)
          have e6 : f 6 = undef := hR 6 (by decide)
          have e7 : f 7 = undef := hR 7 (by decide)
          have e8 : f 8 = undef := hR 8 (by decide)
          have e9 : f 9 = undef := hR 9 (by decide)
          have e10 : f 10 = undef := hR 10 (by decide)
          have e11 : f 11 = undef := hR 11 (by decide)
          have e12 : f 12 = (Value.bool true) := hR 12 (by decide)
          have e13 : f 13 = (Value.bool true) := hR 13 (by decide)
          have e14 : f 14 = .bool true := hR 14 (by decide)
          have e15 : f 15 = .bool true := hR 15 (by decide)
          have e16 : f 16 = .bool true := hR 16 (by decide)
          clear hR
          simp only [finA, Act.put, List.setIfInBounds_toArray, List.set_cons_succ, List.set_cons_zero, Nat.reduceAdd, e0, e1, e2, e3, e4, e5, e6, e7, e8, e9, e10, e11, e12, e13, e14, e15, e16]
          clear e0 e1 e2 e3 e4 e5 e6 e7 e8 e9 e10 e11 e12 e13 e14 e15 e16
          have hend : Below w.heap.size w w' := bnext (bnext hb812 hq4) hJ
          go_wp2_with fail
          go_ret
          exact ⟨rfl, hend⟩
        · have hd2 : decide ((l.length : Int) < 2) = false := by rw [decide_eq_false_iff_not]; omega
          have Hl2 : Hid (2 ≤ l.length) := Nat.le_of_not_lt h2
          have hcs : l.length ≤ c + 1 := by omega
          refine wp_region_specs [
            Spec.val (.slice (some ⟨b, o, none⟩) l.length c),
            Spec.val (.int .i64 l.length),
            Spec.val (.bool false),
            Spec.val (.bool false),
            Spec.val (.agg #[.int .i64 p0, .int .i64 p1, .int .i64 p2, .int .i64 mn, .int .i64 mx, .int .i64 mf, .int .i64 xf, .int .i64 tt, .int .u8 0, .int .u8 0, .int .u8 0, .int .u8 0, .int .u8 0, .int .u8 0, .int .u8 0, .int .u8 0, .int .u8 0, .int .u8 0, .int .u8 0, .int .u8 0, .int .u8 0, .int .u8 0, .int .u8 0, .int .u8 0]),
            Spec.val (.slice (some ⟨b, o, none⟩) l.length c),
            Spec.val (.slice (some ⟨b, o, none⟩) l.length c),
            Spec.val (.int .i64 l.length),
            Spec.val (.int .i64 (l.length - 1 : Nat)),
            Spec.val (.slice (some ⟨b, o, none⟩) (l.length - 1) c),
            Spec.val (.int .i64 22),
            Spec.val (.bool true),
            Spec.val (.bool true),
            Spec.val (.bool true),
            Spec.val (.bool true),
            Spec.val (.bool true),
            Spec.val (.bool true)] w16 (by kernel_rfl) (by repeat (first | exact Below.refl _ _ | assumption | refine below_drewN ?_ _ | refine Below.drew ?_ | refine Below.alloc ?_ (Nat.le_refl _) _ | refine bal ?_ _ | refine bnext ?_ (by assumption))) (n := 125) rfl (by decide +kernel) ⟨?_, ?_, ?_, ?_, ?_, ?_, ?_, ?_, ?_, ?_, ?_, ?_, ?_, ?_, ?_, ?_, ?_, trivial⟩ ?_
          · intro a wd hJ hfr hdep
            have s1 : a.tmps.getD 1 undef = .slice (some ⟨b, o, none⟩) l.length c := (hfr 1 (by decide)).trans rfl
            have s1' := slot' s1
            clear hfr hdep
            refine if_wanted rfl (fun Q => op_any (fun K hK => ?_))
            go_simp
            exact hK _ _ rfl hJ (Below.refl _ _)
          · intro a wd hJ hfr hdep
            have s109 : a.tmps.getD 109 undef = .slice (some ⟨b, o, none⟩) l.length c := hdep 0 _ 109 (by decide) rfl rfl
            have s109' := slot' s109
            clear hfr hdep
            refine if_wanted rfl (fun Q => op_any (fun K hK => ?_))
            go_simp
            exact hK _ _ rfl hJ (Below.refl _ _)
          · intro a wd hJ hfr hdep
            have s110 : a.tmps.getD 110 undef = .int .i64 l.length := hdep 1 _ 110 (by decide) rfl rfl
            have s110' := slot' s110
            clear hfr hdep
            refine if_wanted rfl (fun Q => op_any (fun K hK => ?_))
            go_simp
            exact hK _ _ rfl hJ (Below.refl _ _)
          · intro a wd hJ hfr hdep
            have s111 : a.tmps.getD 111 undef = .bool false := hdep 2 _ 111 (by decide) rfl rfl
            have s111' := slot' s111
            clear hfr hdep
            refine if_wanted rfl (fun Q => op_any (fun K hK => ?_))
            go_simp
            exact hK _ _ rfl hJ (Below.refl _ _)
          · intro a wd hJ hfr hdep
            have sg : a.tmps.getD 112 undef = .bool false := hdep 3 _ 112 (by decide) rfl rfl
            have s6 : a.tmps.getD 6 undef = .pointer (some ⟨g5, 0, none⟩) := (hfr 6 (by decide)).trans rfl
            have s6' := slot' s6
            clear hfr hdep
            refine if_wanted (wanted_yes rfl rfl rfl sg) (fun Q => op_any (fun K hK => ?_))
            exact wp_load_row 34 _ rfl g5 s6 34 _ (0, 0) _ (GI.out wd (bnext hq4 hJ)) Try.underlying34 rfl (by kernel_rfl) (hK _ _ rfl hJ (Below.refl _ _))
          · intro a wd hJ hfr hdep
            have sg : a.tmps.getD 112 undef = .bool false := hdep 3 _ 112 (by decide) rfl rfl
            have s1 : a.tmps.getD 1 undef = .slice (some ⟨b, o, none⟩) l.length c := (hfr 1 (by decide)).trans rfl
            have s1' := slot' s1
            clear hfr hdep
            refine if_wanted (wanted_yes rfl rfl rfl sg) (fun Q => op_any (fun K hK => ?_))
            go_simp
            exact hK _ _ rfl hJ (Below.refl _ _)
          · intro a wd hJ hfr hdep
            have sg : a.tmps.getD 112 undef = .bool false := hdep 3 _ 112 (by decide) rfl rfl
            have s1 : a.tmps.getD 1 undef = .slice (some ⟨b, o, none⟩) l.length c := (hfr 1 (by decide)).trans rfl
            have s1' := slot' s1
            clear hfr hdep
            refine if_wanted (wanted_yes rfl rfl rfl sg) (fun Q => op_any (fun K hK => ?_))
            go_simp
            exact hK _ _ rfl hJ (Below.refl _ _)
          · intro a wd hJ hfr hdep
            have sg : a.tmps.getD 112 undef = .bool false := hdep 3 _ 112 (by decide) rfl rfl
            have s115 : a.tmps.getD 115 undef = .slice (some ⟨b, o, none⟩) l.length c := hdep 6 _ 115 (by decide) rfl rfl
            have s115' := slot' s115
            clear hfr hdep
            refine if_wanted (wanted_yes rfl rfl rfl sg) (fun Q => op_any (fun K hK => ?_))
            go_simp
            exact hK _ _ rfl hJ (Below.refl _ _)
          · intro a wd hJ hfr hdep
            have sg : a.tmps.getD 112 undef = .bool false := hdep 3 _ 112 (by decide) rfl rfl
            have s116 : a.tmps.getD 116 undef = .int .i64 l.length := hdep 7 _ 116 (by decide) rfl rfl
            have s116' := slot' s116
            clear hfr hdep
            refine if_wanted (wanted_yes rfl rfl rfl sg) (fun Q => op_any (fun K hK => ?_))
            go_simp
            exact hK _ _ rfl hJ (Below.refl _ _)
          · intro a wd hJ hfr hdep
            have sg : a.tmps.getD 112 undef = .bool false := hdep 3 _ 112 (by decide) rfl rfl
            have s114 : a.tmps.getD 114 undef = .slice (some ⟨b, o, none⟩) l.length c := hdep 5 _ 114 (by decide) rfl rfl
            have s117 : a.tmps.getD 117 undef = .int .i64 (l.length - 1 : Nat) := hdep 8 _ 117 (by decide) rfl rfl
            have s114' := slot' s114
            have s117' := slot' s117
            clear hfr hdep
            refine if_wanted (wanted_yes rfl rfl rfl sg) (fun Q => op_any (fun K hK => ?_))
            go_simp
            exact hK _ _ rfl hJ (Below.refl _ _)
          · intro a wd hJ hfr hdep
            have sg : a.tmps.getD 112 undef = .bool false := hdep 3 _ 112 (by decide) rfl rfl
            have s113 : a.tmps.getD 113 undef = .agg #[.int .i64 p0, .int .i64 p1, .int .i64 p2, .int .i64 mn, .int .i64 mx, .int .i64 mf, .int .i64 xf, .int .i64 tt, .int .u8 0, .int .u8 0, .int .u8 0, .int .u8 0, .int .u8 0, .int .u8 0, .int .u8 0, .int .u8 0, .int .u8 0, .int .u8 0, .int .u8 0, .int .u8 0, .int .u8 0, .int .u8 0, .int .u8 0, .int .u8 0] := hdep 4 _ 113 (by decide) rfl rfl
            have s118 : a.tmps.getD 118 undef = .slice (some ⟨b, o, none⟩) (l.length - 1) c := hdep 9 _ 118 (by decide) rfl rfl
            have s113' := slot' s113
            have s118' := slot' s118
            clear hfr hdep
            refine if_wanted (wanted_yes rfl rfl rfl sg) (fun Q => op_any (fun K hK => ?_))
            go_simp
            refine (V4.out Hl2.out _ (bnext hq4 hJ)).mono ?_
            rintro e w1 ⟨rfl, hb1⟩
            exact hK _ _ rfl (bnext hJ hb1) hb1
          · intro a wd hJ hfr hdep
            have sg : a.tmps.getD 112 undef = .bool false := hdep 3 _ 112 (by decide) rfl rfl
            have s119 : a.tmps.getD 119 undef = .int .i64 22 := hdep 10 _ 119 (by decide) rfl rfl
            have s119' := slot' s119
            clear hfr hdep
            refine if_wanted (wanted_yes rfl rfl rfl sg) (fun Q => op_any (fun K hK => ?_))
            go_simp
            exact hK _ _ rfl hJ (Below.refl _ _)
          · intro a wd hJ hfr hdep
            have s112 : a.tmps.getD 112 undef = .bool false := hdep 3 _ 112 (by decide) rfl rfl
            have s120 : a.tmps.getD 120 undef = .bool true := hdep 11 _ 120 (by decide) rfl rfl
            have s112' := slot' s112
            have s120' := slot' s120
            clear hfr hdep
            refine if_wanted rfl (fun Q => op_any (fun K hK => ?_))
            go_simp
            exact hK _ _ rfl hJ (Below.refl _ _)
          · intro a wd hJ hfr hdep
            have s121 : a.tmps.getD 121 undef = .bool true := hdep 12 _ 121 (by decide) rfl rfl
            have s121' := slot' s121
            clear hfr hdep
            refine if_wanted rfl (fun Q => op_any (fun K hK => ?_))
            go_simp
            exact hK _ _ rfl hJ (Below.refl _ _)
          · intro a wd hJ hfr hdep
            have sg : a.tmps.getD 122 undef = .bool true := hdep 13 _ 122 (by decide) rfl rfl
            clear hfr hdep
            refine if_wanted (wanted_yes rfl rfl rfl sg) (fun Q => op_any (fun K hK => ?_))
            go_simp
            refine (awake_any _).mono ?_
            rintro e w1 ⟨rfl, hb1⟩
            exact hK _ _ rfl (bnext hJ hb1) hb1
          · intro a wd hJ hfr hdep
            have s122 : a.tmps.getD 122 undef = .bool true := hdep 13 _ 122 (by decide) rfl rfl
            have s123 : a.tmps.getD 123 undef = .bool true := hdep 14 _ 123 (by decide) rfl rfl
            have s122' := slot' s122
            have s123' := slot' s123
            clear hfr hdep
            refine if_wanted rfl (fun Q => op_any (fun K hK => ?_))
            go_simp
            exact hK _ _ rfl hJ (Below.refl _ _)
          · intro a wd hJ hfr hdep
            have s124 : a.tmps.getD 124 undef = .bool true := hdep 15 _ 124 (by decide) rfl rfl
            have s124' := slot' s124
            clear hfr hdep
            refine if_wanted rfl (fun Q => op_any (fun K hK => ?_))
            go_simp
            exact hK _ _ rfl hJ (Below.refl _ _)
          intro f w' hJ hR
          have e0 : f 0 = .slice (some ⟨b, o, none⟩) l.length c := hR 0 (by decide)
          have e1 : f 1 = .int .i64 l.length := hR 1 (by decide)
          have e2 : f 2 = .bool false := hR 2 (by decide)
          have e3 : f 3 = .bool false := hR 3 (by decide)
          have e4 : f 4 = .agg #[.int .i64 p0, .int .i64 p1, .int .i64 p2, .int .i64 mn, .int .i64 mx, .int .i64 mf, .int .i64 xf, .int .i64 tt, .int .u8 0, .int .u8 0, .int .u8 0, .int .u8 0, .int .u8 0, .int .u8 0, .int .u8 0, .int .u8 0, .int .u8 0, .int .u8 0, .int .u8 0, .int .u8 0, .int .u8 0, .int .u8 0, .int .u8 0, .int .u8 0] := hR 4 (by decide)
          have e5 : f 5 = .slice (some ⟨b, o, none⟩) l.length c := hR 5 (by decide)
          have e6 : f 6 = .slice (some ⟨b, o, none⟩) l.length c := hR 6 (by decide)
          have e7 : f 7 = .int .i64 l.length := hR 7 (by decide)
          have e8 : f 8 = .int .i64 (l.length - 1 : Nat) := hR 8 (by decide)
          have e9 : f 9 = .slice (some ⟨b, o, none⟩) (l.length - 1) c := hR 9 (by decide)
          have e10 : f 10 = .int .i64 22 := hR 10 (by decide)
          have e11 : f 11 = .bool true := hR 11 (by decide)
          have e12 : f 12 = .bool true := hR 12 (by decide)
          have e13 : f 13 = .bool true := hR 13 (by decide)
          have e14 : f 14 = .bool true := hR 14 (by decide)
          have e15 : f 15 = .bool true := hR 15 (by decide)
          have e16 : f 16 = .bool true := hR 16 (by decide)
          clear hR
          simp only [finA, Act.put, List.setIfInBounds_toArray, List.set_cons_succ, List.set_cons_zero, Nat.reduceAdd, e0, e1, e2, e3, e4, e5, e6, e7, e8, e9, e10, e11, e12, e13, e14, e15, e16]
          clear e0 e1 e2 e3 e4 e5 e6 e7 e8 e9 e10 e11 e12 e13 e14 e15 e16
          have hend : Below w.heap.size w w' := bnext (bnext hb812 hq4) hJ
          go_wp2_with fail
          go_ret
          exact ⟨rfl, hend⟩
end Go.Proofs.Ytikgpohoggpldaa
