/-
  jetsamlaw18.BurstOf: its walk.
-/
import Derived.Test.YticfmhmkgcdhgaaOf18
namespace Go.Proofs.Yticfmhmkgcdhgaa
open Go.RowKit
open Crc (burstB dmg bl bk bits8 bitsOf bits8_le bitsOf_le)

set_option maxRecDepth 100000 in
set_option maxHeartbeats 800000 in
theorem Of_no (m k : Nat) (A B : Option Addr) (c d : Nat) (w : World) (hl : ¬ (m : Int) = k) :
    Calls Try.prog 26 #[.slice A m c, .slice B k d] w fun e w' => e = .returned (.tuple #[.agg #[.int .i64 0, .int .i64 0, .int .i64 0], .int .i64 1]) ∧ Below w.heap.size w w' := by
  have hne : ((m : Int) != (k : Int)) = true := by rw [bne_iff_ne]; exact hl
  have HB : Hid ((w.alloc (.cells #[.int .i64 0, .int .i64 0, .int .i64 0] 28)).heap[w.heap.size]? = some (.cells #[.int .i64 0, .int .i64 0, .int .i64 0] 28 (0, 0))) := heap_alloc_last w _
  have Hb : Hid (Below w.heap.size w (w.alloc (.cells #[.int .i64 0, .int .i64 0, .int .i64 0] 28))) := by show Below _ _ _; repeat (first | exact Below.refl _ _ | assumption | refine below_drewN ?_ _ | refine Below.drew ?_ | refine Below.alloc ?_ (Nat.le_refl _) _ | refine bal ?_ _ | refine bnext ?_ (by assumption))
  have hB0 := cell_of_row _ _ 0 _ _ _ HB.out
  have hB1 := cell_of_row _ _ 1 _ _ _ HB.out
  have hB2 := cell_of_row _ _ 2 _ _ _ HB.out
  have hf0 := free_blk HB.out
  go_enter Try.func26, Try.ntmps26
  go_wp2_with fail
  exact bodyPost_ret (results_row_tmp Try.results26 _ _ _ rfl rfl HB.out Try.underlying28 rfl (by kernel_rfl)) rfl ⟨rfl, Hb.out⟩

set_option maxRecDepth 100000 in
set_option maxHeartbeats 3200000 in
theorem of_walk (l m : List UInt8) (A B : Option Addr) (c d : Nat) (xa xn xp : Int) (hxp : xp ≤ 9223372036854775807) (w : World) (hl : Rd w A (bv l)) (hn : A = none → l.length = 0 ∧ c = 0) (hm : Rd w B (bv m)) :
    Calls Try.prog 9 #[.slice A l.length c, .slice B m.length d, .agg #[.int .i64 xa, .int .i64 xn, .int .i64 xp]] w fun e w' => e = .returned (.bool true) ∧ Below w.heap.size w w' := by
  by_cases h1 : (60 : Int) < l.length
  · clear hl hn hm
    go_enter Try.func9, Try.ntmps9
    go_wp2_with fail
    (refine (awake_any _).mono ?_; rintro e w9 ⟨rfl, hb9⟩; go_wp2_with fail; go_ret; exact ⟨rfl, by repeat (first | exact Below.refl _ _ | assumption | refine below_drewN ?_ _ | refine Below.drew ?_ | refine Below.alloc ?_ (Nat.le_refl _) _ | refine bal ?_ _ | refine bnext ?_ (by assumption))⟩)
  by_cases h2 : (60 : Int) < m.length
  · clear hl hn hm
    go_enter Try.func9, Try.ntmps9
    go_wp2_with fail
    (refine (awake_any _).mono ?_; rintro e w9 ⟨rfl, hb9⟩; go_wp2_with fail; go_ret; exact ⟨rfl, by repeat (first | exact Below.refl _ _ | assumption | refine below_drewN ?_ _ | refine Below.drew ?_ | refine Below.alloc ?_ (Nat.le_refl _) _ | refine bal ?_ _ | refine bnext ?_ (by assumption))⟩)
  have HAp := Lib.hid (fun W (h : Below w.heap.size w W) (ya yn yp : Int) (hyp : yp ≤ 9223372036854775807) => Apply_any l A c [⟨ya, yn, yp⟩] (some ⟨W.heap.size, 0, none⟩) 1 (W.alloc (.cells #[.int .i64 ya, .int .i64 yn, .int .i64 yp] 28)) (hl.below (bal h _)) (by omega) hn (RdT.one W 28 ⟨ya, yn, yp⟩) (by intro y hy; simp at hy; subst hy; exact hyp) (by simp))
  have Hl := Lib.hid (fun W (h : Below w.heap.size w W) => hl.below h)
  have Hm := Lib.hid (fun W (h : Below w.heap.size w W) => hm.below h)
  have Hbox := Lib.hid (Bx3.new w 28 xa xn xp)
  have Hb0 : Hid (Below w.heap.size w (w.alloc (.cells #[.int .i64 xa, .int .i64 xn, .int .i64 xp] 28))) := by show Below _ _ _; repeat (first | exact Below.refl _ _ | assumption | refine below_drewN ?_ _ | refine Below.drew ?_ | refine Below.alloc ?_ (Nat.le_refl _) _ | refine bal ?_ _ | refine bnext ?_ (by assumption))
  have HA1 := HAp.out _ Hb0.out xa xn xp hxp
  rw [World.size_alloc] at HA1
  have HA1 := Lib.hid HA1
  clear hl hm
  go_enter Try.func9, Try.ntmps9
  go_wp2_with fail
  refine HA1.out.mono ?_
  rintro e w3 ⟨hb3, ⟨hbd, rfl⟩ | ⟨hbd, v3, rfl, Hown3⟩⟩
  · have Hb3 : Hid (Below w.heap.size w w3) := bnext (bal (bal (Below.refl _ _) _) _) hb3
    clear hbd hb3 HA1 Hb0 Hbox
    by_cases hlm : l.length = m.length
    · have HOf := Lib.hid (Of_any l m A B c d _ (Hl.out _ Hb3.out) (Hm.out _ Hb3.out) hlm (by omega))
      have Her := Lib.hid (ofX_err l m hlm)
      have Htn := Lib.hid (ofX_turns l m hlm)
      have hne : ((l.length : Int) != (m.length : Int)) = false := by rw [bne_eq_false_iff_eq]; omega
      have hne2 : ((m.length : Int) != (m.length : Int)) = false := by simp
      have HB0 := Lib.hid (fun W (h : Below w.heap.size w W) => bytesQ_any l m A B c d W (Hl.out _ h) (Hm.out _ h) (by omega))
      have HBt := Lib.hid (fun W (h : Below w.heap.size w W) => Bits_any l A c W (Hl.out _ h) (by omega))
      have HBm := Lib.hid (fun W (h : Below w.heap.size w W) => Bits_any m B d W (Hm.out _ h) (by omega))
      have Hlm := Lib.hid hlm
      have h2' := h2
      rw [← hlm] at hne2 h2' HBm
      obtain ⟨X, hX⟩ : ∃ X, ofX (8 * l.length) (bitsOf l) (bitsOf m) = X := ⟨_, rfl⟩
      rw [hX] at HOf Her Htn
      obtain ⟨⟨ya, yn, yp⟩, er⟩ := X
      simp only at HOf Htn
      clear hX hlm
      rw [← Hlm.out] at HOf ⊢
      go_wp2_with fail
      refine HOf.out.mono ?_
      rintro e w4 ⟨rfl, hb4⟩
      have Hb4 := Lib.hid (bnext Hb3.out hb4)
      have Hbx4 : Hid (Bx3 (w4.alloc (.cells #[.int .i64 ya, .int .i64 yn, .int .i64 yp] 28)) w4.heap.size ya yn yp) := Bx3.new _ _ _ _ _
      have Hb5 : Hid (Below w.heap.size w (w4.alloc (.cells #[.int .i64 ya, .int .i64 yn, .int .i64 yp] 28))) := bal Hb4.out _
      clear HOf hb4 Hb3
      have HB5 := Lib.hid (HB0.out _ Hb5.out)
      rw [← Hlm.out] at HB5
      rcases Her.out with ⟨he, hnm⟩ | ⟨he, hnm⟩ | ⟨he, hnm, hge⟩
      · have he : er = 0 := he
        subst he
        rw [decide_eq_false hnm] at HB5
        obtain ⟨hok, hbu⟩ := Htn.out rfl
        obtain ⟨hbad, -⟩ := ok_ck l.length ⟨ya, yn, yp⟩ hok
        have Hbad := Lib.hid hbad
        have Hbu := Lib.hid hbu
        have hyp : (yp : Int) ≤ 9223372036854775807 := by have := hok.2.1; show (yp : Int) ≤ _; simp only at this; omega
        clear Htn Her hnm hok hbad hbu HBt HBm
        go_wp2_with fail
        refine HB5.out.mono ?_
        rintro e w6 ⟨rfl, q, rfl⟩
        obtain ⟨hx0, hx1, hx2⟩ := Hbx4.out.below (below_drewN (Below.refl _ _) q)
        have Hb6 := Lib.hid (below_drewN Hb5.out q)
        clear HB5
        generalize hw6 : (w4.alloc (.cells #[.int .i64 ya, .int .i64 yn, .int .i64 yp] 28)).drewN q = w6 at *
        clear hw6 Hbx4 Hb5
        have HA6 := Lib.hid (HAp.out w6 Hb6.out ya yn yp hyp)
        go_wp2_with fail
        refine HA6.out.mono ?_
        rintro e w7 ⟨hb7, ⟨hbd, rfl⟩ | ⟨-, v7, rfl, Hown7⟩⟩
        · exfalso
          have := Hbad.out
          simp only [List.any_cons, List.any_nil, Bool.or_false] at hbd
          rw [show badX l.length (toT ⟨ya, yn, yp⟩) = badX l.length ⟨(ya : Int), (yn : Int), (yp : Int)⟩ from rfl, hbd] at this
          cases this
        obtain ⟨A7, c7, rfl, -, -, hr7, -⟩ := own_rd4 Hown7.out
        have Hb7 := Lib.hid (bnext (bal Hb6.out _) hb7)
        rw [show apL l [⟨(ya : Int), (yn : Int), (yp : Int)⟩] = burstB l ya yn yp from rfl] at hr7
        have Hbu' : burstB l ya yn yp = m := Hbu.out
        rw [Hbu'] at hr7
        have HB7 := Lib.hid (bytesQ_any m m A7 B c7 d w7 hr7 (Hm.out _ Hb7.out) (by omega))
        rw [decide_eq_true rfl, ← Hlm.out] at HB7
        clear Hown7 hr7 hb7 HA6 Hbu Hbu' Hbad hx0 hx1 hx2
        go_wp2_with fail
        refine HB7.out.mono ?_
        rintro e w8 ⟨rfl, q8, rfl⟩
        have hb8 := below_drewN Hb7.out q8
        go_wp2_with fail
        (refine (awake_any _).mono ?_; rintro e w9 ⟨rfl, hb9⟩; go_wp2_with fail; go_ret; exact ⟨rfl, by repeat (first | exact Below.refl _ _ | assumption | refine below_drewN ?_ _ | refine Below.drew ?_ | refine Below.alloc ?_ (Nat.le_refl _) _ | refine bal ?_ _ | refine bnext ?_ (by assumption))⟩)
      · injection he with he1 he2
        injection he1 with e1 e2 e3
        subst e1 e2 e3 he2
        rw [decide_eq_true hnm] at HB5
        clear Htn Her hnm HBt HBm
        go_wp2_with fail
        refine HB5.out.mono ?_
        rintro e w6 ⟨rfl, q, rfl⟩
        obtain ⟨hx0, hx1, hx2⟩ := Hbx4.out.below (below_drewN (Below.refl _ _) q)
        have hb6 := below_drewN Hb5.out q
        clear HB5
        go_wp2_with fail
        (refine (awake_any _).mono ?_; rintro e w9 ⟨rfl, hb9⟩; go_wp2_with fail; go_ret; exact ⟨rfl, by repeat (first | exact Below.refl _ _ | assumption | refine below_drewN ?_ _ | refine Below.drew ?_ | refine Below.alloc ?_ (Nat.le_refl _) _ | refine bal ?_ _ | refine bnext ?_ (by assumption))⟩)
      · injection he with he1 he2
        injection he1 with e1 e2 e3
        subst e1 e2 e3 he2
        rw [decide_eq_false hnm] at HB5
        have Hge := Lib.hid hge
        clear Htn Her hnm hge
        go_wp2_with fail
        refine HB5.out.mono ?_
        rintro e w6 ⟨rfl, q, rfl⟩
        have Hbx6 := Lib.hid (Hbx4.out.below (below_drewN (Below.refl _ _) q))
        have Hb6 := Lib.hid (below_drewN Hb5.out q)
        clear HB5
        go_wp2_with fail
        refine (HBt.out _ Hb6.out).mono ?_
        rintro e w7 ⟨v7, rfl, hown7, hb7⟩
        obtain ⟨A7, c7, rfl, -, hr7, -⟩ := own_nilcap hown7
        have Hbx7 := Lib.hid (Hbx6.out.below hb7)
        have Hb7 := Lib.hid (bnext Hb6.out hb7)
        have Hr7 := Lib.hid hr7
        clear hown7 hb7 hr7 HBt Hbx6 Hb6 Hbx4 Hb5
        go_wp2_with fail
        refine (HBm.out _ Hb7.out).mono ?_
        rintro e w8 ⟨v8, rfl, hown8, hb8⟩
        obtain ⟨A8, c8, rfl, -, hr8, -⟩ := own_nilcap hown8
        have Hbx8 := Lib.hid (Hbx7.out.below hb8)
        have Hb8 := Lib.hid (bnext Hb7.out hb8)
        have Hr8 := Lib.hid hr8
        have Hr78 := Lib.hid (Hr7.out.below hb8)
        have Hp1 := Lib.hid (bitsOf_le l)
        have Hq1 := Lib.hid (bitsOf_le m)
        have hpl : (bitsOf l).length = 8 * l.length := bitsOf_length l
        have hql : (bitsOf m).length = 8 * l.length := by rw [bitsOf_length, Hlm.out]
        clear hown8 hb8 hr8 HBm Hbx7 Hb7 Hr7
        generalize bitsOf l = P at *
        generalize bitsOf m = R at *
        have Hpl := Lib.hid hpl
        have Hql := Lib.hid hql
        clear hpl hql
        go_wp2_with fail
        go_loopw [19, 20, 21] (fun f t i wr => ∃ k : Nat, k ≤ 8 * l.length ∧ i = .int .i64 k ∧ f = .int .i64 (flS P R k).1 ∧ t = .int .i64 (flS P R k).2 ∧ Hid (Below w8.heap.size w8 wr)) (fun _ _ i _ => 8 * l.length - (intOf i).toNat)
        case atStart => exact ⟨0, by omega, rfl, rfl, rfl, Below.refl _ _⟩
        case round =>
          obtain ⟨k, hk, rfl, rfl, rfl, Hb⟩ := hrel
          by_cases hkk : k < 8 * l.length
          · have hkI : (k : Int) < 8 * (l.length : Int) := by omega
            have hkp : k < P.length := by have := Hpl.out; omega
            have hkr : k < R.length := by have := Hql.out; omega
            obtain ⟨b1, o1, rfl, hx⟩ := (Hr78.out.below Hb.out).at_ (j := k) (by rw [nv_length]; exact hkp)
            obtain ⟨b2, o2, rfl, hy⟩ := (Hr8.out.below Hb.out).at_ (j := k) (by rw [nv_length]; exact hkr)
            have e1 := nv_get P k hkp
            have e2 := nv_get R k hkr
            rw [List.getElem?_eq_getElem (by rw [nv_length]; exact hkp)] at e1
            rw [List.getElem?_eq_getElem (by rw [nv_length]; exact hkr)] at e2
            rw [Option.some.inj e1] at hx
            rw [Option.some.inj e2] at hy
            clear e1 e2
            have hx1 := Hp1.out _ (List.getElem_mem hkp)
            have hy1 := Hq1.out _ (List.getElem_mem hkr)
            have hdl : dl P R k = (P[k] + R[k]) % 2 := by unfold dl; simp only [List.getD_eq_getElem?_getD, List.getElem?_eq_getElem hkp, List.getElem?_eq_getElem hkr, Option.getD_some]
            generalize P[k] = x at *
            generalize R[k] = y at *
            have Hfl : Hid (flS P R (k + 1) = if dl P R k = 1 then (if (flS P R k).1 < 0 then (k : Int) else (flS P R k).1, (k : Int)) else flS P R k) := rfl
            generalize flS P R k = F at *
            by_cases hd : dl P R k = 1
            · have hxy : ((x : Int) != (y : Int)) = true := by rw [bne_iff_ne]; omega
              have Hf2 : Hid (flS P R (k + 1) = (if F.1 < 0 then (k : Int) else F.1, (k : Int))) := by show _ = _; rw [Hfl.out, if_pos hd]
              clear hdl hd
              by_cases hF : F.1 < 0
              · rw [if_pos hF] at Hf2
                go_wp2_with fail
                go_quiet (fail)
                go_wp2_with fail
                go_roundw
                case rel => exact ⟨k + 1, by omega, by go_num, by rw [Hf2.out], by rw [Hf2.out], below_drewN Hb.out _⟩
                case measure => simp [intOf] <;> omega
              · rw [if_neg hF] at Hf2
                go_wp2_with fail
                go_quiet (fail)
                go_wp2_with fail
                go_roundw
                case rel => exact ⟨k + 1, by omega, by go_num, by rw [Hf2.out], by rw [Hf2.out], below_drewN Hb.out _⟩
                case measure => simp [intOf] <;> omega
            · have hxy : ((x : Int) != (y : Int)) = false := by rw [bne_eq_false_iff_eq]; omega
              have Hf2 : Hid (flS P R (k + 1) = F) := by show _ = _; rw [Hfl.out, if_neg hd]
              clear hdl hd
              go_wp2_with fail
              go_quiet (fail)
              go_wp2_with fail
              go_roundw
              case rel => exact ⟨k + 1, by omega, by go_num, by rw [Hf2.out], by rw [Hf2.out], below_drewN Hb.out _⟩
              case measure => simp [intOf] <;> omega
          · obtain rfl : k = 8 * l.length := by omega
            have hge := Hge.out
            have hbd : -1 ≤ (flS P R (8 * l.length)).1 ∧ (flS P R (8 * l.length)).1 ≤ 480 ∧ -1 ≤ (flS P R (8 * l.length)).2 ∧ (flS P R (8 * l.length)).2 ≤ 480 := by
              rcases flS_spec P R (8 * l.length) with ⟨e, -⟩ | ⟨f, t, e, g1, g2, -⟩ <;> rw [e] <;> simp only <;> omega
            generalize (flS P R (8 * l.length)).2 = t at *
            generalize (flS P R (8 * l.length)).1 = f at *
            obtain ⟨hbd1, hbd2, hbd3, hbd4⟩ := hbd
            obtain ⟨hx0, hx1, hx2⟩ := Hbx8.out.below Hb.out
            have hb9 := bnext Hb8.out Hb.out
            go_wp2_with fail
            (refine (awake_any _).mono ?_; rintro e w9 ⟨rfl, hb9⟩; go_wp2_with fail; go_ret; exact ⟨rfl, by repeat (first | exact Below.refl _ _ | assumption | refine below_drewN ?_ _ | refine Below.drew ?_ | refine Below.alloc ?_ (Nat.le_refl _) _ | refine bal ?_ _ | refine bnext ?_ (by assumption))⟩)
    · have HOf := Lib.hid (fun W => Of_no l.length m.length A B c d W (by omega))
      have hne : ((l.length : Int) != (m.length : Int)) = true := by rw [bne_iff_ne]; omega
      go_wp2_with fail
      refine (HOf.out _).mono ?_
      rintro e w4 ⟨rfl, hb4⟩
      have hb5 := bnext Hb3.out hb4
      go_wp2_with fail
      (refine (awake_any _).mono ?_; rintro e w9 ⟨rfl, hb9⟩; go_wp2_with fail; go_ret; exact ⟨rfl, by repeat (first | exact Below.refl _ _ | assumption | refine below_drewN ?_ _ | refine Below.drew ?_ | refine Below.alloc ?_ (Nat.le_refl _) _ | refine bal ?_ _ | refine bnext ?_ (by assumption))⟩)
  · have hck : ckE xa xn xp l.length = 0 := by simpa [badX] using hbd
    obtain ⟨a, n, p, rfl, rfl, rfl, hn1, hn16, hp16, hbl, hodd, hat⟩ := ckE_ok _ _ _ _ hck hxp
    have hok : okB (8 * l.length) ⟨a, n, p⟩ := ⟨hbl, hp16, hodd, hat⟩
    have hX := ofX_burst l ⟨a, n, p⟩ hok
    simp only at hX
    have hDl := Crc.burstB_length l a n p
    have hown3 := Hown3.out
    rw [show apL l [⟨(a : Int), (n : Int), (p : Int)⟩] = burstB l a n p from rfl] at hown3
    generalize burstB l a n p = D at *
    obtain ⟨A3, c3, rfl, -, -, hr3, hn3⟩ := own_rd4 hown3
    have hb3' : Below w.heap.size w w3 := bnext (bal (bal (Below.refl _ _) _) _) hb3
    have hb31 : Below (w.heap.size + 1) (w.alloc (.cells #[.int .i64 a, .int .i64 n, .int .i64 p] 28)) w3 := by
      have := bnext (bal (Below.refl _ (w.alloc (.cells #[.int .i64 a, .int .i64 n, .int .i64 p] 28))) _) hb3
      rwa [World.size_alloc] at this
    have Hb3 := Lib.hid hb3'
    have Hbx3 : Hid (Bx3 w3 w.heap.size a n p) := Hbox.out.below (by rw [World.size_alloc]; exact hb31)
    have HO1 := Of_any l D A A3 c c3 w3 (Hl.out _ hb3') hr3 hDl.symm (by omega)
    rw [hX] at HO1
    rw [hDl] at HO1
    have HO1 := Lib.hid HO1
    have HO2 := Lib.hid (fun W (h : Below w3.heap.size w3 W) => by
      have h := Of_any D l A3 A c3 c W (hr3.below h) (Hl.out _ (bnext hb3' h)) hDl (by omega)
      rw [ofX_comm, hDl, hX] at h
      exact h)
    clear hbd hb3 HA1 Hb0 Hbox hown3 Hown3 hr3 hn3 hb3' hb31 hDl hX hok hbl hodd hat hck
    go_wp2_with fail
    refine HO1.out.mono ?_
    rintro e w4 ⟨rfl, hb4⟩
    have Hb34 : Hid (Below w3.heap.size w3 w4) := hb4
    have Hb34' : Hid (Below w3.heap.size w3 (w4.alloc (.cells #[.int .i64 a, .int .i64 n, .int .i64 p] 28))) := bal hb4 _
    clear HO1 hb4
    have HO3 := Lib.hid (HO2.out _ Hb34'.out)
    go_wp2_with fail
    refine HO3.out.mono ?_
    rintro e w5 ⟨rfl, hb5⟩
    have hb35 : Below w3.heap.size w3 (w5.alloc (.cells #[.int .i64 a, .int .i64 n, .int .i64 p] 28)) := bal (bnext Hb34'.out hb5) _
    have Hb6 : Hid (Below w.heap.size w (w5.alloc (.cells #[.int .i64 a, .int .i64 n, .int .i64 p] 28))) := bnext Hb3.out hb35
    have hxa := Hbx3.out.below hb35
    have hb45 : Below (w4.alloc (.cells #[.int .i64 a, .int .i64 n, .int .i64 p] 28)).heap.size (w4.alloc (.cells #[.int .i64 a, .int .i64 n, .int .i64 p] 28)) (w5.alloc (.cells #[.int .i64 a, .int .i64 n, .int .i64 p] 28)) := bal hb5 _
    have hxb := (Bx3.new w4 28 a n p).below hb45
    have hxc := Bx3.new w5 28 a n p
    clear hb35 hb45 hb5 HO3 HO2 Hb34 Hb34' Hbx3 Hb3
    obtain ⟨hxa0, hxa1, hxa2⟩ := hxa
    obtain ⟨hxb0, hxb1, hxb2⟩ := hxb
    obtain ⟨hxc0, hxc1, hxc2⟩ := hxc
    have h3 : ((a : Int) != (a : Int)) = false := by simp
    go_upto_region 7 with fail
    generalize w5.alloc (.cells #[.int .i64 a, .int .i64 n, .int .i64 p] 28) = w6 at *
    clear h3
    by_cases hlm : l.length = m.length
    · have HOf := Lib.hid (Of_any l m A B c d _ (Hl.out _ Hb6.out) (Hm.out _ Hb6.out) hlm (by omega))
      have Her := Lib.hid (ofX_err l m hlm)
      have Htn := Lib.hid (ofX_turns l m hlm)
      have hne : ((l.length : Int) != (m.length : Int)) = false := by rw [bne_eq_false_iff_eq]; omega
      have hne2 : ((m.length : Int) != (m.length : Int)) = false := by simp
      have HB0 := Lib.hid (fun W (h : Below w.heap.size w W) => bytesQ_any l m A B c d W (Hl.out _ h) (Hm.out _ h) (by omega))
      have HBt := Lib.hid (fun W (h : Below w.heap.size w W) => Bits_any l A c W (Hl.out _ h) (by omega))
      have HBm := Lib.hid (fun W (h : Below w.heap.size w W) => Bits_any m B d W (Hm.out _ h) (by omega))
      have Hlm := Lib.hid hlm
      have h2' := h2
      rw [← hlm] at hne2 h2' HBm
      obtain ⟨X, hX⟩ : ∃ X, ofX (8 * l.length) (bitsOf l) (bitsOf m) = X := ⟨_, rfl⟩
      rw [hX] at HOf Her Htn
      obtain ⟨⟨ya, yn, yp⟩, er⟩ := X
      simp only at HOf Htn
      clear hX hlm
      rw [← Hlm.out] at HOf ⊢
      go_wp2_with fail
      refine HOf.out.mono ?_
      rintro e w4 ⟨rfl, hb4⟩
      have Hb4 := Lib.hid (bnext Hb6.out hb4)
      have Hbx4 : Hid (Bx3 (w4.alloc (.cells #[.int .i64 ya, .int .i64 yn, .int .i64 yp] 28)) w4.heap.size ya yn yp) := Bx3.new _ _ _ _ _
      have Hb5 : Hid (Below w.heap.size w (w4.alloc (.cells #[.int .i64 ya, .int .i64 yn, .int .i64 yp] 28))) := bal Hb4.out _
      clear HOf hb4 Hb6
      have HB5 := Lib.hid (HB0.out _ Hb5.out)
      rw [← Hlm.out] at HB5
      rcases Her.out with ⟨he, hnm⟩ | ⟨he, hnm⟩ | ⟨he, hnm, hge⟩
      · have he : er = 0 := he
        subst he
        rw [decide_eq_false hnm] at HB5
        obtain ⟨hok, hbu⟩ := Htn.out rfl
        obtain ⟨hbad, -⟩ := ok_ck l.length ⟨ya, yn, yp⟩ hok
        have Hbad := Lib.hid hbad
        have Hbu := Lib.hid hbu
        have hyp : (yp : Int) ≤ 9223372036854775807 := by have := hok.2.1; show (yp : Int) ≤ _; simp only at this; omega
        clear Htn Her hnm hok hbad hbu HBt HBm
        go_wp2_with fail
        refine HB5.out.mono ?_
        rintro e w6 ⟨rfl, q, rfl⟩
        obtain ⟨hx0, hx1, hx2⟩ := Hbx4.out.below (below_drewN (Below.refl _ _) q)
        have Hb6 := Lib.hid (below_drewN Hb5.out q)
        clear HB5
        generalize hw6 : (w4.alloc (.cells #[.int .i64 ya, .int .i64 yn, .int .i64 yp] 28)).drewN q = w6 at *
        clear hw6 Hbx4 Hb5
        have HA6 := Lib.hid (HAp.out w6 Hb6.out ya yn yp hyp)
        go_wp2_with fail
        refine HA6.out.mono ?_
        rintro e w7 ⟨hb7, ⟨hbd, rfl⟩ | ⟨-, v7, rfl, Hown7⟩⟩
        · exfalso
          have := Hbad.out
          simp only [List.any_cons, List.any_nil, Bool.or_false] at hbd
          rw [show badX l.length (toT ⟨ya, yn, yp⟩) = badX l.length ⟨(ya : Int), (yn : Int), (yp : Int)⟩ from rfl, hbd] at this
          cases this
        obtain ⟨A7, c7, rfl, -, -, hr7, -⟩ := own_rd4 Hown7.out
        have Hb7 := Lib.hid (bnext (bal Hb6.out _) hb7)
        rw [show apL l [⟨(ya : Int), (yn : Int), (yp : Int)⟩] = burstB l ya yn yp from rfl] at hr7
        have Hbu' : burstB l ya yn yp = m := Hbu.out
        rw [Hbu'] at hr7
        have HB7 := Lib.hid (bytesQ_any m m A7 B c7 d w7 hr7 (Hm.out _ Hb7.out) (by omega))
        rw [decide_eq_true rfl, ← Hlm.out] at HB7
        clear Hown7 hr7 hb7 HA6 Hbu Hbu' Hbad hx0 hx1 hx2
        go_wp2_with fail
        refine HB7.out.mono ?_
        rintro e w8 ⟨rfl, q8, rfl⟩
        have hb8 := below_drewN Hb7.out q8
        go_wp2_with fail
        (refine (awake_any _).mono ?_; rintro e w9 ⟨rfl, hb9⟩; go_wp2_with fail; go_ret; exact ⟨rfl, by repeat (first | exact Below.refl _ _ | assumption | refine below_drewN ?_ _ | refine Below.drew ?_ | refine Below.alloc ?_ (Nat.le_refl _) _ | refine bal ?_ _ | refine bnext ?_ (by assumption))⟩)
      · injection he with he1 he2
        injection he1 with e1 e2 e3
        subst e1 e2 e3 he2
        rw [decide_eq_true hnm] at HB5
        clear Htn Her hnm HBt HBm
        go_wp2_with fail
        refine HB5.out.mono ?_
        rintro e w6 ⟨rfl, q, rfl⟩
        obtain ⟨hx0, hx1, hx2⟩ := Hbx4.out.below (below_drewN (Below.refl _ _) q)
        have hb6 := below_drewN Hb5.out q
        clear HB5
        go_wp2_with fail
        (refine (awake_any _).mono ?_; rintro e w9 ⟨rfl, hb9⟩; go_wp2_with fail; go_ret; exact ⟨rfl, by repeat (first | exact Below.refl _ _ | assumption | refine below_drewN ?_ _ | refine Below.drew ?_ | refine Below.alloc ?_ (Nat.le_refl _) _ | refine bal ?_ _ | refine bnext ?_ (by assumption))⟩)
      · injection he with he1 he2
        injection he1 with e1 e2 e3
        subst e1 e2 e3 he2
        rw [decide_eq_false hnm] at HB5
        have Hge := Lib.hid hge
        clear Htn Her hnm hge
        go_wp2_with fail
        refine HB5.out.mono ?_
        rintro e w6 ⟨rfl, q, rfl⟩
        have Hbx6 := Lib.hid (Hbx4.out.below (below_drewN (Below.refl _ _) q))
        have Hb6 := Lib.hid (below_drewN Hb5.out q)
        clear HB5
        go_wp2_with fail
        refine (HBt.out _ Hb6.out).mono ?_
        rintro e w7 ⟨v7, rfl, hown7, hb7⟩
        obtain ⟨A7, c7, rfl, -, hr7, -⟩ := own_nilcap hown7
        have Hbx7 := Lib.hid (Hbx6.out.below hb7)
        have Hb7 := Lib.hid (bnext Hb6.out hb7)
        have Hr7 := Lib.hid hr7
        clear hown7 hb7 hr7 HBt Hbx6 Hb6 Hbx4 Hb5
        go_wp2_with fail
        refine (HBm.out _ Hb7.out).mono ?_
        rintro e w8 ⟨v8, rfl, hown8, hb8⟩
        obtain ⟨A8, c8, rfl, -, hr8, -⟩ := own_nilcap hown8
        have Hbx8 := Lib.hid (Hbx7.out.below hb8)
        have Hb8 := Lib.hid (bnext Hb7.out hb8)
        have Hr8 := Lib.hid hr8
        have Hr78 := Lib.hid (Hr7.out.below hb8)
        have Hp1 := Lib.hid (bitsOf_le l)
        have Hq1 := Lib.hid (bitsOf_le m)
        have hpl : (bitsOf l).length = 8 * l.length := bitsOf_length l
        have hql : (bitsOf m).length = 8 * l.length := by rw [bitsOf_length, Hlm.out]
        clear hown8 hb8 hr8 HBm Hbx7 Hb7 Hr7
        generalize bitsOf l = P at *
        generalize bitsOf m = R at *
        have Hpl := Lib.hid hpl
        have Hql := Lib.hid hql
        clear hpl hql
        go_wp2_with fail
        go_loopw [19, 20, 21] (fun f t i wr => ∃ k : Nat, k ≤ 8 * l.length ∧ i = .int .i64 k ∧ f = .int .i64 (flS P R k).1 ∧ t = .int .i64 (flS P R k).2 ∧ Hid (Below w8.heap.size w8 wr)) (fun _ _ i _ => 8 * l.length - (intOf i).toNat)
        case atStart => exact ⟨0, by omega, rfl, rfl, rfl, Below.refl _ _⟩
        case round =>
          obtain ⟨k, hk, rfl, rfl, rfl, Hb⟩ := hrel
          by_cases hkk : k < 8 * l.length
          · have hkI : (k : Int) < 8 * (l.length : Int) := by omega
            have hkp : k < P.length := by have := Hpl.out; omega
            have hkr : k < R.length := by have := Hql.out; omega
            obtain ⟨b1, o1, rfl, hx⟩ := (Hr78.out.below Hb.out).at_ (j := k) (by rw [nv_length]; exact hkp)
            obtain ⟨b2, o2, rfl, hy⟩ := (Hr8.out.below Hb.out).at_ (j := k) (by rw [nv_length]; exact hkr)
            have e1 := nv_get P k hkp
            have e2 := nv_get R k hkr
            rw [List.getElem?_eq_getElem (by rw [nv_length]; exact hkp)] at e1
            rw [List.getElem?_eq_getElem (by rw [nv_length]; exact hkr)] at e2
            rw [Option.some.inj e1] at hx
            rw [Option.some.inj e2] at hy
            clear e1 e2
            have hx1 := Hp1.out _ (List.getElem_mem hkp)
            have hy1 := Hq1.out _ (List.getElem_mem hkr)
            have hdl : dl P R k = (P[k] + R[k]) % 2 := by unfold dl; simp only [List.getD_eq_getElem?_getD, List.getElem?_eq_getElem hkp, List.getElem?_eq_getElem hkr, Option.getD_some]
            generalize P[k] = x at *
            generalize R[k] = y at *
            have Hfl : Hid (flS P R (k + 1) = if dl P R k = 1 then (if (flS P R k).1 < 0 then (k : Int) else (flS P R k).1, (k : Int)) else flS P R k) := rfl
            generalize flS P R k = F at *
            by_cases hd : dl P R k = 1
            · have hxy : ((x : Int) != (y : Int)) = true := by rw [bne_iff_ne]; omega
              have Hf2 : Hid (flS P R (k + 1) = (if F.1 < 0 then (k : Int) else F.1, (k : Int))) := by show _ = _; rw [Hfl.out, if_pos hd]
              clear hdl hd
              by_cases hF : F.1 < 0
              · rw [if_pos hF] at Hf2
                go_wp2_with fail
                go_quiet (fail)
                go_wp2_with fail
                go_roundw
                case rel => exact ⟨k + 1, by omega, by go_num, by rw [Hf2.out], by rw [Hf2.out], below_drewN Hb.out _⟩
                case measure => simp [intOf] <;> omega
              · rw [if_neg hF] at Hf2
                go_wp2_with fail
                go_quiet (fail)
                go_wp2_with fail
                go_roundw
                case rel => exact ⟨k + 1, by omega, by go_num, by rw [Hf2.out], by rw [Hf2.out], below_drewN Hb.out _⟩
                case measure => simp [intOf] <;> omega
            · have hxy : ((x : Int) != (y : Int)) = false := by rw [bne_eq_false_iff_eq]; omega
              have Hf2 : Hid (flS P R (k + 1) = F) := by show _ = _; rw [Hfl.out, if_neg hd]
              clear hdl hd
              go_wp2_with fail
              go_quiet (fail)
              go_wp2_with fail
              go_roundw
              case rel => exact ⟨k + 1, by omega, by go_num, by rw [Hf2.out], by rw [Hf2.out], below_drewN Hb.out _⟩
              case measure => simp [intOf] <;> omega
          · obtain rfl : k = 8 * l.length := by omega
            have hge := Hge.out
            have hbd : -1 ≤ (flS P R (8 * l.length)).1 ∧ (flS P R (8 * l.length)).1 ≤ 480 ∧ -1 ≤ (flS P R (8 * l.length)).2 ∧ (flS P R (8 * l.length)).2 ≤ 480 := by
              rcases flS_spec P R (8 * l.length) with ⟨e, -⟩ | ⟨f, t, e, g1, g2, -⟩ <;> rw [e] <;> simp only <;> omega
            generalize (flS P R (8 * l.length)).2 = t at *
            generalize (flS P R (8 * l.length)).1 = f at *
            obtain ⟨hbd1, hbd2, hbd3, hbd4⟩ := hbd
            obtain ⟨hx0, hx1, hx2⟩ := Hbx8.out.below Hb.out
            have hb9 := bnext Hb8.out Hb.out
            go_wp2_with fail
            (refine (awake_any _).mono ?_; rintro e w9 ⟨rfl, hb9⟩; go_wp2_with fail; go_ret; exact ⟨rfl, by repeat (first | exact Below.refl _ _ | assumption | refine below_drewN ?_ _ | refine Below.drew ?_ | refine Below.alloc ?_ (Nat.le_refl _) _ | refine bal ?_ _ | refine bnext ?_ (by assumption))⟩)
    · have HOf := Lib.hid (fun W => Of_no l.length m.length A B c d W (by omega))
      have hne : ((l.length : Int) != (m.length : Int)) = true := by rw [bne_iff_ne]; omega
      go_wp2_with fail
      refine (HOf.out _).mono ?_
      rintro e w4 ⟨rfl, hb4⟩
      have hb5 := bnext Hb6.out hb4
      go_wp2_with fail
      (refine (awake_any _).mono ?_; rintro e w9 ⟨rfl, hb9⟩; go_wp2_with fail; go_ret; exact ⟨rfl, by repeat (first | exact Below.refl _ _ | assumption | refine below_drewN ?_ _ | refine Below.drew ?_ | refine Below.alloc ?_ (Nat.le_refl _) _ | refine bal ?_ _ | refine bnext ?_ (by assumption))⟩)
end Go.Proofs.Yticfmhmkgcdhgaa
