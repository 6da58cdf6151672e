/-
  jetsamlaw18.BurstFinds: its walk. (UNDER WAY)
-/
import Derived.Test.YticfmhmkgcdhgaaFindL18
import Derived.Test.YticfmhmkgcdhgaaMay18
import Derived.Test.YticfmhmkgcdhgaaMono
namespace Go.Proofs.Yticfmhmkgcdhgaa
open Go.RowKit
open Crc (burstB dmg bl bk bits8 bitsOf bits8_le bitsOf_le)

theorem RdT.one (W : World) (t : TypeId) (x : T3) : RdT (W.alloc (.cells #[.int .i64 x.a, .int .i64 x.n, .int .i64 x.v] t)) (some ⟨W.heap.size, 0, none⟩) [x] := by
  have h : ∀ i, (W.alloc (.cells #[.int .i64 x.a, .int .i64 x.n, .int .i64 x.v] t)).cell? ⟨W.heap.size, i, none⟩ = (#[Value.int .i64 x.a, .int .i64 x.n, .int .i64 x.v] : Array Value)[i]? := fun i => cell_of_row _ _ _ _ _ _ (heap_alloc_last W _)
  intro j y hy
  refine ⟨_, _, rfl, ?_⟩
  match j with
  | 0 => cases hy; exact ⟨h _, h _, h _⟩
  | j + 1 => simp at hy
/-- The three cells of a boxed burst. -/
def Bx3 (W : World) (B : Nat) (a n p : Int) : Prop := W.cell? ⟨B, 0, none⟩ = some (.int .i64 a) ∧ W.cell? ⟨B, 1, none⟩ = some (.int .i64 n) ∧ W.cell? ⟨B, 2, none⟩ = some (.int .i64 p)
theorem Bx3.new (W : World) (t : TypeId) (a n p : Int) : Bx3 (W.alloc (.cells #[.int .i64 a, .int .i64 n, .int .i64 p] t)) W.heap.size a n p := by
  have h : ∀ i, (W.alloc (.cells #[.int .i64 a, .int .i64 n, .int .i64 p] t)).cell? ⟨W.heap.size, i, none⟩ = (#[Value.int .i64 a, .int .i64 n, .int .i64 p] : Array Value)[i]? := fun i => cell_of_row _ _ _ _ _ _ (heap_alloc_last W _)
  exact ⟨h 0, h 1, h 2⟩
theorem Bx3.below {W W' : World} {B : Nat} {a n p : Int} (h : Bx3 W B a n p) (hb : Below W.heap.size W W') : Bx3 W' B a n p :=
  ⟨(hb.cell (p := ⟨B, 0, none⟩) (cell_lt h.1)).trans h.1, (hb.cell (p := ⟨B, 1, none⟩) (cell_lt h.2.1)).trans h.2.1, (hb.cell (p := ⟨B, 2, none⟩) (cell_lt h.2.2)).trans h.2.2⟩
/-- Is it among the first k? -/
def fdK (ys : List B3) (x : B3) (k : Nat) : Bool := (ys.take k).any fun y => decide (y = x)
/-- Where the burst ahead of the k-th ends. -/
def lastE (ys : List B3) (N : Nat) : Nat → Nat
  | 0 => N + 1
  | k + 1 => (ys.getD k default).a + (ys.getD k default).n
theorem lastE_lt (ys : List B3) (N : Nat) (hf : ys.Pairwise fun x y => y.a + y.n < x.a + x.n) (hok : ∀ y ∈ ys, y.a + y.n ≤ N) (k : Nat) (hk : k < ys.length) : ys[k].a + ys[k].n < lastE ys N k := by
  cases k with
  | zero => have := hok _ (List.getElem_mem hk); show _ < N + 1; omega
  | succ k =>
    have h := List.pairwise_iff_getElem.1 hf k (k + 1) (by omega) hk (by omega)
    show _ < (ys.getD k default).a + (ys.getD k default).n
    rw [List.getD_eq_getElem?_getD, List.getElem?_eq_getElem (by omega)]
    exact h
theorem lastE_next (ys : List B3) (N k : Nat) (hk : k < ys.length) : lastE ys N (k + 1) = ys[k].a + ys[k].n := by
  show (ys.getD k default).a + (ys.getD k default).n = _
  rw [List.getD_eq_getElem?_getD, List.getElem?_eq_getElem hk]; rfl

/-- A slice of numbers, with its capacity when it is nil. -/
def SlI (n : Nat) (L : List Nat) (v : Value) (w : World) : Prop := ∃ A c, v = .slice A n c ∧ Rd w A (nv L) ∧ (A = none → c = 0)
def SlI.spec (n : Nat) (L : List Nat) : Spec := .rel (SlI n L) (fun _ _ _ ⟨A, c, e, hr, hn⟩ hb => ⟨A, c, e, hr.below hb, hn⟩)

set_option maxRecDepth 100000 in
set_option maxHeartbeats 1600000 in
theorem finds_walk (l : List UInt8) (A : Option Addr) (c : Nat) (xa xn xp : Int) (hxp : xp ≤ 9223372036854775807) (w : World) (hl : Rd w A (bv l)) (hn : A = none → l.length = 0 ∧ c = 0) :
    Calls Try.prog 6 #[.slice A l.length c, .agg #[.int .i64 xa, .int .i64 xn, .int .i64 xp]] w fun e w' => e = .returned (.bool true) ∧ Below w.heap.size w w' := by
  by_cases h1 : (60 : Int) < l.length
  · clear hl hn
    go_enter Try.func6, Try.ntmps6
    go_wp2_with fail
    (refine (awake_any _).mono ?_; rintro e w9 ⟨rfl, hb9⟩; go_wp2_with fail; go_ret; exact ⟨rfl, by repeat (first | exact Below.refl _ _ | assumption | refine below_drewN ?_ _ | refine Below.drew ?_ | refine Below.alloc ?_ (Nat.le_refl _) _ | refine bal ?_ _ | refine bnext ?_ (by assumption))⟩)
  have HS := Lib.hid (fun W (h : Below w.heap.size w W) => sealed_any l A c W (hl.below h) (by omega) (fun h => (hn h).2))
  clear hl hn
  go_enter Try.func6, Try.ntmps6
  go_wp2_with fail
  refine (HS.out _ (by repeat (first | exact Below.refl _ _ | assumption | refine below_drewN ?_ _ | refine Below.drew ?_ | refine Below.alloc ?_ (Nat.le_refl _) _ | refine bal ?_ _ | refine bnext ?_ (by assumption)))).mono ?_
  rintro e w2 ⟨v2, rfl, hown2, hb2⟩
  have hbox := (Bx3.new w 28 xa xn xp).below hb2
  have hb3 : Below w.heap.size w w2 := bnext (bal (Below.refl _ _) _) hb2
  have hR0 := Lib.hid (sealL_sum l)
  have hRl : (sealL l).length = l.length + 2 := sealL_length l
  rw [← hRl] at hown2
  have HRl := Lib.hid hRl
  generalize sealL l = R at *
  obtain ⟨A2, c2, rfl, -, -, hr2, hn2⟩ := own_rd4 hown2
  have HAp := Lib.hid (Apply_any R A2 c2 [⟨xa, xn, xp⟩] (some ⟨w2.heap.size, 0, none⟩) 1 (w2.alloc (.cells #[.int .i64 xa, .int .i64 xn, .int .i64 xp] 28)) (hr2.alloc _) (by omega) hn2 (RdT.one w2 28 ⟨xa, xn, xp⟩) (by intro y hy; simp at hy; subst hy; exact hxp) (by simp))
  have HLR := Lib.hid (fun W (h : Below w2.heap.size w2 W) => listedB R A2 c2 16 W (hr2.below h) (by omega) hn2)
  obtain ⟨hc0, hc1, hc2⟩ := hbox
  have Hbox : Hid (Bx3 w2 w.heap.size xa xn xp) := ⟨hc0, hc1, hc2⟩
  have Hb3 := Lib.hid hb3
  have HR62 : Hid (R.length ≤ 62) := by show _ ≤ _; omega
  clear hown2 hr2 hn2 HS hb2 hRl hb3 h1
  go_wp2_with fail
  refine HAp.out.mono ?_
  rintro e w3 ⟨hb4, ⟨hbd, rfl⟩ | ⟨hbd, v3, rfl, Hown3⟩⟩
  · have hb5 : Below w.heap.size w w3 := bnext (bal Hb3.out _) hb4
    go_wp2_with fail
    (refine (awake_any _).mono ?_; rintro e w9 ⟨rfl, hb9⟩; go_wp2_with fail; go_ret; exact ⟨rfl, by repeat (first | exact Below.refl _ _ | assumption | refine below_drewN ?_ _ | refine Below.drew ?_ | refine Below.alloc ?_ (Nat.le_refl _) _ | refine bal ?_ _ | refine bnext ?_ (by assumption))⟩)
  have hck : ckE xa xn xp R.length = 0 := by simpa [badX] using hbd
  obtain ⟨a, n, p, rfl, rfl, rfl, hn1, hn16, hp16, hbl, hodd, hat⟩ := ckE_ok _ _ _ _ hck hxp
  have hD : apL R [⟨(a : Int), (n : Int), (p : Int)⟩] = burstB R a n p := rfl
  have hDl := Crc.burstB_length R a n p
  have hokx : okB (8 * (burstB R a n p).length) ⟨a, n, p⟩ := ⟨hbl, hp16, hodd, by rw [hDl]; exact hat⟩
  have hD0 : crc16 0 (burstB (burstB R a n p) a n p) = 0 := by rw [burst_twice]; exact hR0.out
  have hown3 := Hown3.out
  rw [hD, ← hDl] at hown3
  generalize burstB R a n p = D at *
  have hmem := Lib.hid (kills_allB D n (by omega) ⟨a, n, p⟩ hokx (Int.le_refl _) hD0)
  have hkill := Lib.hid (allB_kills D n)
  have hfall := Lib.hid (allB_fall D n)
  have hyok := Lib.hid (allB_ok D n)
  have hone : Hid (n = 1 → (allB D n).length = 1) := fun e => by
    have h := hmem.out
    rw [e] at h ⊢
    exact allB_one D (by have := HR62.out; omega) _ h
  have hnone := Lib.hid (congrArg List.length (allB_right R 16 hR0.out))
  have hyl := allB_length D n
  obtain ⟨A3, c3, rfl, -, -, hr3, hn3⟩ := own_rd4 hown3
  have HL3 := Lib.hid (listedB D A3 c3 n w3 hr3 (by have := HR62.out; omega) hn3)
  have hb5 : Below w.heap.size w w3 := bnext (bal Hb3.out _) hb4
  have Hb23 : Hid (Below w2.heap.size w2 w3) := bnext (bal (Below.refl _ _) _) hb4
  obtain ⟨hc0', hc1', hc2'⟩ := Hbox.out.below Hb23.out
  have Hbox3 : Hid (Bx3 w3 w.heap.size a n p) := ⟨hc0', hc1', hc2'⟩
  have HBt := Lib.hid (fun W (h : Below w3.heap.size w3 W) => Bits_any D A3 c3 W (hr3.below h) (by have := HR62.out; omega))
  have HDl : Hid (D.length = R.length ∧ D.length ≤ 62) := ⟨hDl, by have := HR62.out; omega⟩
  have Hb5 := Lib.hid hb5
  clear hbd hck hD hDl hD0 hown3 Hown3 hr3 hn3 hb4 hb5 HAp hc0 hc1 hc2 hokx hbl hodd hat hp16 Hbox
  obtain ⟨ys, hys⟩ : ∃ ys, allB D n = ys := ⟨_, rfl⟩
  rw [hys] at HL3 hmem hkill hfall hyok hone hyl
  have hyl62 : (ys.length : Int) ≤ 496 := by have := HDl.out.2; omega
  clear hys hyl
  go_wp2_with fail
  refine HL3.out.mono ?_
  rintro e w4 ⟨A4, c4, rfl, HY4, hb6⟩
  obtain ⟨hd0, hd1, hd2⟩ := Hbox3.out.below hb6
  have Hbox4 : Hid (Bx3 w4 w.heap.size a n p) := ⟨hd0, hd1, hd2⟩
  have Hb34 := Lib.hid hb6
  have hDb := HDl.out.2
  clear HL3 hb6 hc0' hc1' hc2' Hbox3
  go_wp2_with fail
  have Hend := Lib.hid (lastE_lt ys (8 * D.length) hfall.out (fun y hy => (hyok.out y hy).2.2.2))
  go_loopw [10, 11, 12, 13, 14] (fun v la i x13 x14 wr => ∃ k : Nat, k ≤ ys.length ∧ i = .int .i64 k ∧ v = .bool (fdK ys ⟨a, n, p⟩ k) ∧ la = .int .i64 (lastE ys (8 * D.length) k : Nat) ∧ Hid (Below w4.heap.size w4 wr)) (fun _ _ i _ _ _ => ys.length - (intOf i).toNat)
  case atStart => exact ⟨0, by omega, rfl, rfl, by simp [lastE], Below.refl _ _⟩
  case round =>
    obtain ⟨k, hk, rfl, rfl, rfl, Hb⟩ := hrel
    clear hd0 hd1 hd2
    obtain ⟨hd0, hd1, hd2⟩ := Hbox4.out.below Hb.out
    have hbl := cell_lt hd0
    have hbn : w.heap.size ≠ wr.heap.size := by omega
    by_cases hkk : k < ys.length
    · obtain ⟨b2, o2, rfl, hy0, hy1, hy2⟩ := (HY4.out.below Hb.out) k ys[k] (List.getElem?_eq_getElem hkk)
      have hmk := List.getElem_mem hkk
      have hyk := hyok.out _ hmk
      obtain ⟨hbad, -⟩ := ok_ck D.length ys[k] hyk
      have hE : ckE ys[k].a ys[k].n ys[k].p D.length = 0 := by simpa [badX, toT] using hbad
      have HM := Lib.hid (fun W => May_any ys[k].a ys[k].n ys[k].p D.length (by have := HDl.out.2; omega) W)
      rw [hE, decide_eq_true rfl] at HM
      obtain ⟨hk0, hkn⟩ := hkill.out _ hmk
      have hlt := Hend.out k hkk
      have hnx := lastE_next ys (8 * D.length) k hkk
      have Han : Hid (fdK ys ⟨a, n, p⟩ (k + 1) = (fdK ys ⟨a, n, p⟩ k || decide (ys[k] = ⟨a, n, p⟩))) := by
        show (ys.take (k + 1)).any _ = ((ys.take k).any _ || _)
        rw [List.take_succ_eq_append_getElem hkk, List.any_append]; simp
      generalize fdK ys ⟨a, n, p⟩ k = fd at *
      generalize lastE ys (8 * D.length) k = la at *
      generalize ys[k] = y at *
      have hg1 : ¬ ((y.a : Int) + y.n ≥ la) := by omega
      have hg2 : ¬ ((y.n : Int) > n) := by omega
      have hya : y.a ≤ 496 := by have := hyk.2.2.2; have := HDl.out.2; omega
      have Hyk := Lib.hid hyk
      have Hk0 := Lib.hid hk0
      have Hnx := Lib.hid hnx
      clear hmk hyk hbad hE hk0 hnx hlt hkn
      go_wp2_with fail
      refine (HM.out _).mono ?_
      rintro e w9 ⟨rfl, rfl⟩
      go_wp2_with fail
      obtain ⟨w9, hw9, hbx9, hb49⟩ : ∃ w9, wr.alloc (.cells #[.int .i64 y.a, .int .i64 y.n, .int .i64 y.p] 28) = w9 ∧ Bx3 w9 wr.heap.size y.a y.n y.p ∧ Below w4.heap.size w4 w9 := ⟨_, rfl, Bx3.new _ _ _ _ _, bal Hb.out _⟩
      rw [hw9]
      obtain ⟨hv0, hv1, hv2⟩ := Hbox4.out.below hb49
      have HBx9 := Lib.hid hbx9
      have Hb39 : Hid (Below w3.heap.size w3 w9) := bnext Hb34.out hb49
      have Hb49 := Lib.hid hb49
      have HTn : Hid (∀ W A c, Rd W A (nv (bitsOf D)) → (A = none → c = 0) → Calls Try.prog 17 #[.slice A (8 * D.length) c, .int .i64 y.a, .int .i64 y.n, .int .i64 y.p] W fun e w' =>
          ∃ v, e = .returned v ∧ w'.ownsRow W.heap.size 3 1 v (8 * D.length) (nv (bitsOf (burstB D y.a y.n y.p))) ∧ Below W.heap.size W w') := by
        intro W A c hr hn
        obtain ⟨k1, k2, k3, k4⟩ := Hyk.out
        have hp0 : 0 < y.n := by rw [← k1]; exact Crc.bl_pos _ (by omega)
        have hp16 : y.n ≤ 16 := by rw [← k1]; exact Crc.bl_le _ _ k2
        have h := Turn_any (bitsOf D) (bitsOf_le _) A c y.a y.n y.p W hr hn hp0 hp16 k2 (by rw [bitsOf_length]; exact k4) (by rw [bitsOf_length]; omega)
        rw [rT_burst _ _ _ _ hp16 k4, bitsOf_length] at h
        exact h
      have HSm : Hid (∀ W A c, Rd W A (nv (bitsOf (burstB D y.a y.n y.p))) → Calls Try.prog 20 #[.slice A (8 * D.length) c] W fun e w' => e = .returned (.int .i64 0) ∧ Below W.heap.size W w') := by
        intro W A c hr
        have h := Sum_any (bitsOf (burstB D y.a y.n y.p)) (bitsOf_le _) A c W hr (by rw [bitsOf_length, Crc.burstB_length]; omega)
        rw [lft_eq, Hk0.out, bitsOf_length, Crc.burstB_length] at h
        exact h
      clear hw9 hbx9 hb49
      refine wp_region_specs [
        Spec.val (.slice A3 D.length c3),
        SlI.spec (8 * D.length) (bitsOf D),
        Spec.val (.pointer (some ⟨wr.heap.size, 0, none⟩)),
        Spec.val (.int .i64 (y.a : Int)),
        Spec.val (.pointer (some ⟨wr.heap.size, 1, none⟩)),
        Spec.val (.int .i64 (y.n : Int)),
        Spec.val (.pointer (some ⟨wr.heap.size, 2, none⟩)),
        Spec.val (.int .i64 (y.p : Int)),
        SlI.spec (8 * D.length) (bitsOf (burstB D y.a y.n y.p)),
        Spec.val (.int .i64 0),
        Spec.val (.bool false)] w9 (by kernel_rfl) (by repeat (first | exact Below.refl _ _ | assumption | refine below_drewN ?_ _ | refine Below.drew ?_ | refine Below.alloc ?_ (Nat.le_refl _) _ | refine bal ?_ _ | refine bnext ?_ (by assumption))) (n := 126) rfl (by decide +kernel) ⟨?_, ?_, ?_, ?_, ?_, ?_, ?_, ?_, ?_, ?_, ?_, trivial⟩ ?_
      · intro ac wd hJ hfr hdep
        have s6 : ac.tmps.getD 6 undef = .slice A3 D.length c3 := (hfr 6 (by decide)).trans rfl
        have s6' := slot' s6
        clear hfr hdep
        refine if_wanted rfl (fun Q => op_any (fun K hK => ?_))
        go_simp
        exact hK _ _ rfl hJ (Below.refl _ _)
      · intro ac wd hJ hfr hdep
        have s85 : ac.tmps.getD 85 undef = .slice A3 D.length c3 := hdep 0 _ 85 (by decide) rfl rfl
        have s85' := slot' s85
        clear hfr hdep
        refine if_wanted rfl (fun Q => op_any (fun K hK => ?_))
        go_simp
        refine (HBt.out _ (bnext Hb39.out hJ)).mono ?_
        rintro e wz ⟨v, rfl, hown, hbz⟩
        obtain ⟨A', c', rfl, -, hr, hn⟩ := own_nilcap hown
        exact hK _ _ ⟨A', c', rfl, hr, hn⟩ (bnext hJ hbz) hbz
      · intro ac wd hJ hfr hdep
        have s13 : ac.tmps.getD 13 undef = .pointer (some ⟨wr.heap.size, 0, none⟩) := (hfr 13 (by decide)).trans rfl
        have s13' := slot' s13
        clear hfr hdep
        refine if_wanted rfl (fun Q => op_any (fun K hK => ?_))
        go_simp
        exact hK _ _ rfl hJ (Below.refl _ _)
      · intro ac wd hJ hfr hdep
        have s87 : ac.tmps.getD 87 undef = .pointer (some ⟨wr.heap.size, 0, none⟩) := hdep 2 _ 87 (by decide) rfl rfl
        have s87' := slot' s87
        clear hfr hdep
        refine if_wanted rfl (fun Q => op_any (fun K hK => ?_))
        obtain ⟨hx0, hx1, hx2⟩ := HBx9.out.below hJ
        go_simp
        exact hK _ _ rfl hJ (Below.refl _ _)
      · intro ac wd hJ hfr hdep
        have s13 : ac.tmps.getD 13 undef = .pointer (some ⟨wr.heap.size, 0, none⟩) := (hfr 13 (by decide)).trans rfl
        have s13' := slot' s13
        clear hfr hdep
        refine if_wanted rfl (fun Q => op_any (fun K hK => ?_))
        go_simp
        exact hK _ _ rfl hJ (Below.refl _ _)
      · intro ac wd hJ hfr hdep
        have s89 : ac.tmps.getD 89 undef = .pointer (some ⟨wr.heap.size, 1, none⟩) := hdep 4 _ 89 (by decide) rfl rfl
        have s89' := slot' s89
        clear hfr hdep
        refine if_wanted rfl (fun Q => op_any (fun K hK => ?_))
        obtain ⟨hx0, hx1, hx2⟩ := HBx9.out.below hJ
        go_simp
        exact hK _ _ rfl hJ (Below.refl _ _)
      · intro ac wd hJ hfr hdep
        have s13 : ac.tmps.getD 13 undef = .pointer (some ⟨wr.heap.size, 0, none⟩) := (hfr 13 (by decide)).trans rfl
        have s13' := slot' s13
        clear hfr hdep
        refine if_wanted rfl (fun Q => op_any (fun K hK => ?_))
        go_simp
        exact hK _ _ rfl hJ (Below.refl _ _)
      · intro ac wd hJ hfr hdep
        have s91 : ac.tmps.getD 91 undef = .pointer (some ⟨wr.heap.size, 2, none⟩) := hdep 6 _ 91 (by decide) rfl rfl
        have s91' := slot' s91
        clear hfr hdep
        refine if_wanted rfl (fun Q => op_any (fun K hK => ?_))
        obtain ⟨hx0, hx1, hx2⟩ := HBx9.out.below hJ
        go_simp
        exact hK _ _ rfl hJ (Below.refl _ _)
      · intro ac wd hJ hfr hdep
        obtain ⟨A86, c86, s86, hr86, hn86⟩ := hdep 1 _ 86 (by decide) rfl rfl
        have s88 : ac.tmps.getD 88 undef = .int .i64 (y.a : Int) := hdep 3 _ 88 (by decide) rfl rfl
        have s90 : ac.tmps.getD 90 undef = .int .i64 (y.n : Int) := hdep 5 _ 90 (by decide) rfl rfl
        have s92 : ac.tmps.getD 92 undef = .int .i64 (y.p : Int) := hdep 7 _ 92 (by decide) rfl rfl
        have s86' := slot' s86
        have s88' := slot' s88
        have s90' := slot' s90
        have s92' := slot' s92
        clear hfr hdep
        refine if_wanted rfl (fun Q => op_any (fun K hK => ?_))
        go_simp
        refine (HTn.out _ A86 c86 hr86 hn86).mono ?_
        rintro e wz ⟨v, rfl, hown, hbz⟩
        obtain ⟨A', c', rfl, -, hr, hn⟩ := own_nilcap hown
        exact hK _ _ ⟨A', c', rfl, hr, hn⟩ (bnext hJ hbz) hbz
      · intro ac wd hJ hfr hdep
        obtain ⟨A93, c93, s93, hr93, hn93⟩ := hdep 8 _ 93 (by decide) rfl rfl
        have s93' := slot' s93
        clear hfr hdep
        refine if_wanted rfl (fun Q => op_any (fun K hK => ?_))
        go_simp
        refine (HSm.out _ A93 c93 hr93).mono ?_
        rintro e wz ⟨rfl, hbz⟩
        exact hK _ _ rfl (bnext hJ hbz) hbz
      · intro ac wd hJ hfr hdep
        have s94 : ac.tmps.getD 94 undef = .int .i64 0 := hdep 9 _ 94 (by decide) rfl rfl
        have s94' := slot' s94
        clear hfr hdep
        refine if_wanted rfl (fun Q => op_any (fun K hK => ?_))
        go_simp
        exact hK _ _ rfl hJ (Below.refl _ _)
      intro f w' hJ hR
      have e0 : f 0 = .slice A3 D.length c3 := hR 0 (by decide)
      obtain ⟨A1', c1', e1, hr1', hn1'⟩ := hR 1 (by decide)
      have e2 : f 2 = .pointer (some ⟨wr.heap.size, 0, none⟩) := hR 2 (by decide)
      have e3 : f 3 = .int .i64 (y.a : Int) := hR 3 (by decide)
      have e4 : f 4 = .pointer (some ⟨wr.heap.size, 1, none⟩) := hR 4 (by decide)
      have e5 : f 5 = .int .i64 (y.n : Int) := hR 5 (by decide)
      have e6 : f 6 = .pointer (some ⟨wr.heap.size, 2, none⟩) := hR 6 (by decide)
      have e7 : f 7 = .int .i64 (y.p : Int) := hR 7 (by decide)
      obtain ⟨A8', c8', e8, hr8', hn8'⟩ := hR 8 (by decide)
      have e9 : f 9 = .int .i64 0 := hR 9 (by decide)
      have e10 : f 10 = .bool false := hR 10 (by decide)
      clear hR
      simp only [finA, Act.put, List.setIfInBounds_toArray, List.set_cons_succ, List.set_cons_zero, Nat.reduceAdd, e0, e1, e2, e3, e4, e5, e6, e7, e8, e9, e10]
      clear e0 e1 e2 e3 e4 e5 e6 e7 e8 e9 e10
      have HJ : Hid (Below w4.heap.size w4 w') := bnext Hb49.out hJ
      have hv0' := (hJ.cell (p := ⟨w.heap.size, 0, none⟩) (cell_lt hv0)).trans hv0
      have hv1' := (hJ.cell (p := ⟨w.heap.size, 1, none⟩) (cell_lt hv1)).trans hv1
      have hv2' := (hJ.cell (p := ⟨w.heap.size, 2, none⟩) (cell_lt hv2)).trans hv2
      obtain ⟨hz0, hz1, hz2⟩ := HBx9.out.below hJ
      by_cases hyx : y = ⟨a, n, p⟩
      · rw [decide_eq_true hyx] at Han
        subst hyx
        simp only at hz0 hz1 hz2
        cases fd
        all_goals
          go_wp2_with fail
          go_roundw
          case rel => exact ⟨k + 1, by omega, by go_num, by rw [Han.out]; rfl, by rw [Hnx.out]; first | rfl | go_num, HJ.out⟩
          case measure => simp [intOf] <;> omega
      · rw [decide_eq_false hyx] at Han
        have hne : ¬ ((y.a : Int) = a ∧ (y.n : Int) = n ∧ (y.p : Int) = p) := by
          rintro ⟨e1, e2, e3⟩
          apply hyx
          obtain ⟨ya, yn, yp⟩ := y
          simp only at e1 e2 e3
          congr 1 <;> omega
        by_cases ea : (y.a : Int) = a
        · by_cases en : (y.n : Int) = n
          · have ep : ¬ ((y.p : Int) = p) := fun h => hne ⟨ea, en, h⟩
            have qp : ((y.p : Int) == p) = false := by rw [beq_eq_false_iff_ne]; exact ep
            rw [ea] at hz0
            rw [en] at hz1
            clear hne ea en hyx
            cases fd
            all_goals
              go_wp2_with fail
              go_roundw
              case rel => exact ⟨k + 1, by omega, by go_num, by rw [Han.out]; rfl, by rw [Hnx.out]; first | rfl | go_num, HJ.out⟩
              case measure => simp [intOf] <;> omega
          · have qn : ((y.n : Int) == n) = false := by rw [beq_eq_false_iff_ne]; exact en
            clear hne ea hyx
            cases fd
            all_goals
              go_wp2_with fail
              go_roundw
              case rel => exact ⟨k + 1, by omega, by go_num, by rw [Han.out]; rfl, by rw [Hnx.out]; first | rfl | go_num, HJ.out⟩
              case measure => simp [intOf] <;> omega
        · have qa : ((y.a : Int) == a) = false := by rw [beq_eq_false_iff_ne]; exact ea
          clear hne hyx
          cases fd
          all_goals
            go_wp2_with fail
            go_roundw
            case rel => exact ⟨k + 1, by omega, by go_num, by rw [Han.out]; rfl, by rw [Hnx.out]; first | rfl | go_num, HJ.out⟩
            case measure => simp [intOf] <;> omega
    · obtain rfl : k = ys.length := by omega
      have hfd : fdK ys ⟨a, n, p⟩ ys.length = true := by
        show (ys.take ys.length).any _ = true
        rw [List.take_of_length_le (Nat.le_refl _)]
        exact List.any_eq_true.2 ⟨_, hmem.out, by simp⟩
      rw [hfd]
      have HLR2 := Lib.hid (HLR.out wr (bnext Hb23.out (bnext Hb34.out Hb.out)))
      rw [hnone.out] at HLR2
      have Hbe : Hid (Below w.heap.size w wr) := bnext Hb5.out (bnext Hb34.out Hb.out)
      clear hfd HLR
      go_wp2_with fail
      refine HLR2.out.mono ?_
      rintro e w9 ⟨A9, c9, rfl, -, hb9⟩
      obtain ⟨hu0, hu1, hu2⟩ := (Hbox4.out.below Hb.out).below hb9
      have hbz : Below w.heap.size w w9 := bnext Hbe.out hb9
      by_cases hn1' : n = 1
      · have hy1 := hone.out hn1'
        have e1 : ((n : Int) != 1) = false := by rw [hn1']; rfl
        have e2 : ((ys.length : Int) == 1) = true := by rw [hy1]; rfl
        clear hn1' hy1
        go_wp2_with fail
        (refine (awake_any _).mono ?_; rintro e w9 ⟨rfl, hb9⟩; go_wp2_with fail; go_ret; exact ⟨rfl, by repeat (first | exact Below.refl _ _ | assumption | refine below_drewN ?_ _ | refine Below.drew ?_ | refine Below.alloc ?_ (Nat.le_refl _) _ | refine bal ?_ _ | refine bnext ?_ (by assumption))⟩)
      · have e1 : ((n : Int) != 1) = true := by rw [bne_iff_ne]; omega
        go_wp2_with fail
        (refine (awake_any _).mono ?_; rintro e w9 ⟨rfl, hb9⟩; go_wp2_with fail; go_ret; exact ⟨rfl, by repeat (first | exact Below.refl _ _ | assumption | refine below_drewN ?_ _ | refine Below.drew ?_ | refine Below.alloc ?_ (Nat.le_refl _) _ | refine bal ?_ _ | refine bnext ?_ (by assumption))⟩)
end Go.Proofs.Yticfmhmkgcdhgaa
