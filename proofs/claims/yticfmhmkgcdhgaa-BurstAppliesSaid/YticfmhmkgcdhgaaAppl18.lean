/-
  jetsamlaw18.BurstApplies: its walk.
-/
import Derived.Test.YticfmhmkgcdhgaaMay18
import Derived.Test.YticfmhmkgcdhgaaTrnW18
import Derived.StillTailTactics
namespace Go.Proofs.Yticfmhmkgcdhgaa
open Go.RowKit
open Crc (burstB dmg bl bk bits8 bitsOf bits8_le bitsOf_le)

theorem ckE_two (a n p : Int) (m : Nat) : ckE a n p m = 0 ∨ ckE a n p m = 10 := by unfold ckE; split <;> simp
theorem apL_snoc (l : List UInt8) (xs : List T3) (k : Nat) (hk : k < xs.length) : apL l (xs.take (k + 1)) = burstB (apL l (xs.take k)) xs[k].a.toNat xs[k].n.toNat xs[k].v.toNat := by
  rw [List.take_succ_eq_append_getElem hk]
  simp only [apL, List.foldl_append, List.foldl_cons, List.foldl_nil]

set_option maxRecDepth 100000 in
set_option maxHeartbeats 1600000 in
theorem applies_walk (l : List UInt8) (A : Option Addr) (c : Nat) (xs : List T3) (X : Option Addr) (cx : Nat) (w : World) (hl : Rd w A (bv l)) (hn : A = none → l.length = 0 ∧ c = 0) (hx : RdT w X xs) (hok : ∀ x ∈ xs, okT x) :
    Calls Try.prog 5 #[.slice A l.length c, .slice X xs.length cx] w fun e w' => e = .returned (.bool true) ∧ Below w.heap.size w w' := by
  by_cases h1 : (60 : Int) < l.length
  · clear hl hn hx hok
    go_enter Try.func5, Try.ntmps5
    go_wp2_with fail
    (refine (awake_any _).mono ?_; rintro e w9 ⟨rfl, hb9⟩; go_wp2_with fail; go_ret; exact ⟨rfl, by repeat (first | exact Below.refl _ _ | assumption | refine below_drewN ?_ _ | refine Below.drew ?_ | refine Below.alloc ?_ (Nat.le_refl _) _ | refine bal ?_ _ | refine bnext ?_ (by assumption))⟩)
  by_cases h2 : (10 : Int) < xs.length
  · clear hl hn hx hok
    go_enter Try.func5, Try.ntmps5
    go_wp2_with fail
    (refine (awake_any _).mono ?_; rintro e w9 ⟨rfl, hb9⟩; go_wp2_with fail; go_ret; exact ⟨rfl, by repeat (first | exact Below.refl _ _ | assumption | refine below_drewN ?_ _ | refine Below.drew ?_ | refine Below.alloc ?_ (Nat.le_refl _) _ | refine bal ?_ _ | refine bnext ?_ (by assumption))⟩)
  have HAp := Lib.hid (fun W (h : Below w.heap.size w W) => Apply_any l A c xs X cx W (hl.below h) (by omega) hn (hx.below h) hok (by omega))
  have Hx := Lib.hid (fun W (h : Below w.heap.size w W) => hx.below h)
  have HB := Lib.hid (Bits_any l A c w hl (by omega))
  have Hok := Lib.hid hok
  clear hl hn hx hok
  go_enter Try.func5, Try.ntmps5
  go_wp2_with fail
  refine HB.out.mono ?_
  rintro e w1 ⟨v, rfl, hown, hb1⟩
  obtain ⟨A1, c1, rfl, -, hr1, hn1⟩ := own_nilcap hown
  have Hr1 := Lib.hid hr1
  have Hn1 := Lib.hid hn1
  have Hb1 := Lib.hid hb1
  clear hown hr1 hn1 hb1 HB
  go_wp2_with fail
  go_loopw [6, 7, 8, 9] (fun v i x8 x9 wr => ∃ k : Nat, k ≤ xs.length ∧ i = .int .i64 k ∧ v = .bool (!(xs.take k).any (badX l.length)) ∧ Hid (Below w1.heap.size w1 wr)) (fun _ i _ _ _ => xs.length - (intOf i).toNat)
  case atStart => exact ⟨0, by omega, rfl, rfl, Below.refl _ _⟩
  case round =>
    obtain ⟨k, hk, rfl, rfl, Hb⟩ := hrel
    by_cases hkk : k < xs.length
    · obtain ⟨b2, o2, rfl, hc0, hc1, hc2⟩ := (Hx.out _ (bnext Hb1.out Hb.out)) k xs[k] (List.getElem?_eq_getElem hkk)
      have hokk := Hok.out _ (List.getElem_mem hkk)
      have Hs : Hid ((!(xs.take (k + 1)).any (badX l.length)) = ((!(xs.take k).any (badX l.length)) && !badX l.length xs[k])) := by
        show _ = _
        rw [List.take_succ_eq_append_getElem hkk, List.any_append]; simp
      generalize (!(xs.take k).any (badX l.length)) = ok at *
      generalize xs[k] = x at *
      obtain ⟨a, n, p⟩ := x
      have HM := Lib.hid (fun q => May_any a n p l.length (by omega) (wr.drewN q))
      have HC := Lib.hid (fun W => Check_any a n p l.length (by omega) hokk W)
      have Hs' : Hid ((!(xs.take (k + 1)).any (badX l.length)) = (ok && !(ckE a n p l.length != 0))) := Hs.out
      clear Hs hokk
      simp only at hc0 hc1 hc2
      rcases ckE_two a n p l.length with hE | hE
      · rw [hE] at HM HC Hs'
        rw [decide_eq_true rfl] at HM
        go_wp2_with fail
        go_quiet ((go_at_call 15; exact Calls.quiet_of_same (HM.out _)))
        go_wp2_with fail
        refine (HC.out _).mono ?_
        rintro e w3 ⟨rfl, hb3⟩
        have hb4 : Below w1.heap.size w1 w3 := bnext (below_drewN Hb.out _) hb3
        have Hb4 := Lib.hid hb4
        clear hb3 hb4
        cases ok
        all_goals
          go_wp2_with fail
          go_roundw
          case rel => exact ⟨k + 1, by omega, by go_num, by rw [Hs'.out]; rfl, Hb4.out⟩
          case measure => simp [intOf] <;> omega
      · rw [hE] at HM HC Hs'
        rw [decide_eq_false (by decide)] at HM
        go_wp2_with fail
        go_quiet ((go_at_call 15; exact Calls.quiet_of_same (HM.out _)))
        go_wp2_with fail
        refine (HC.out _).mono ?_
        rintro e w3 ⟨rfl, hb3⟩
        have hb4 : Below w1.heap.size w1 w3 := bnext (below_drewN Hb.out _) hb3
        have Hb4 := Lib.hid hb4
        clear hb3 hb4
        cases ok
        all_goals
          go_wp2_with fail
          go_roundw
          case rel => exact ⟨k + 1, by omega, by go_num, by rw [Hs'.out]; rfl, Hb4.out⟩
          case measure => simp [intOf] <;> omega
    · obtain rfl : k = xs.length := by omega
      rw [List.take_of_length_le (Nat.le_refl _)]
      have hbr : Below w.heap.size w wr := bnext Hb1.out Hb.out
      obtain ⟨wo, hwo⟩ : ∃ wo : World, wo = wr := ⟨_, rfl⟩
      subst hwo
      have HA := Lib.hid (HAp.out wo hbr)
      have HR := Lib.hid (Hr1.out.below Hb.out)
      have Hbr := Lib.hid hbr
      clear hbr Hr1 Hb1 Hb
      obtain ⟨bad, hbad⟩ : ∃ b, xs.any (badX l.length) = b := ⟨_, rfl⟩
      rw [hbad]
      have Hbad := Lib.hid hbad
      clear hbad
      cases bad
      · have Hgood : Hid (∀ k (hk : k < xs.length), ckE xs[k].a xs[k].n xs[k].v l.length = 0) := fun k hk => by
          have := List.any_eq_false.1 Hbad.out xs[k] (List.getElem_mem hk)
          simpa [badX] using this
        clear HA
        go_wp2_with fail
        go_loopw [5, 10] (fun v i wr => ∃ (k : Nat) (A5 : Option Addr) (c5 : Nat), k ≤ xs.length ∧ i = .int .i64 k ∧ v = .slice A5 (8 * l.length) c5 ∧ Hid (Rd wr A5 (nv (bitsOf (apL l (xs.take k))))) ∧ Hid (A5 = none → c5 = 0) ∧ Hid (Below w.heap.size w wr)) (fun _ i _ => xs.length - (intOf i).toNat)
        case atStart => exact ⟨0, A1, c1, by omega, rfl, rfl, HR.out, Hn1.out, Hbr.out⟩
        case round =>
          obtain ⟨k, A5, c5, hk, rfl, rfl, HR5, Hn5, Hb⟩ := hrel
          clear HR Hn1 Hbr
          by_cases hkk : k < xs.length
          · obtain ⟨b2, o2, rfl, hc0, hc1, hc2⟩ := (Hx.out _ Hb.out) k xs[k] (List.getElem?_eq_getElem hkk)
            obtain ⟨a, n, p, ha, hn, hp, hn1', hn16, hp16, -, -, hat⟩ := ckE_ok _ _ _ _ (Hgood.out k hkk) (Hok.out _ (List.getElem_mem hkk))
            have hs := apL_snoc l xs k hkk
            rw [ha] at hc0 hs
            rw [hn] at hc1 hs
            rw [hp] at hc2 hs
            simp only [Int.toNat_natCast] at hs
            have hLl : (apL l (xs.take k)).length = l.length := apL_length _ _
            have hLl2 : (apL l (xs.take (k + 1))).length = l.length := apL_length _ _
            have hT := Turn_any (bitsOf (apL l (xs.take k))) (bitsOf_le _) A5 c5 a n p wr.drew HR5.out.drew Hn5.out hn1' hn16 hp16 (by rw [bitsOf_length, hLl]; omega) (by rw [bitsOf_length, hLl]; omega)
            rw [rT_burst _ a n p hn16 (by rw [hLl]; omega), ← hs, bitsOf_length, hLl] at hT
            have HT := Lib.hid hT
            have Hbd := Lib.hid Hb.out.drew
            have hd0 : wr.drew.cell? ⟨b2, o2 + k * 3, none⟩ = _ := hc0
            have hd1 : wr.drew.cell? ⟨b2, o2 + k * 3 + 1, none⟩ = _ := hc1
            have hd2 : wr.drew.cell? ⟨b2, o2 + k * 3 + 2, none⟩ = _ := hc2
            clear hT hs ha hn hp hn16 hp16 hat hLl hLl2 hn1'
            go_wp2_with fail
            refine wp_region_still_tail 16 (by kernel_rfl) (by kernel_rfl) ?_
            simp only [List.take_succ_cons, List.take_zero, List.drop_succ_cons, List.drop_zero]
            repeat still_step
            refine wpStill_nil ?_
            change wpList _ _ _ _ _ wr.drew
            generalize wr.drew = wd at *
            go_wp2_with fail
            refine HT.out.mono ?_
            rintro e w3 ⟨v3, rfl, hown3, hb3⟩
            obtain ⟨A9, c9, rfl, -, hr9, hn9⟩ := own_nilcap hown3
            have HR9 := Lib.hid hr9
            have HN9 := Lib.hid hn9
            have Hb9 : Hid (Below w.heap.size w w3) := bnext Hbd.out hb3
            clear hown3 hr9 hn9 hb3 HT Hbd
            go_wp2_with fail
            go_roundw
            case rel => (repeat apply Exists.intro); refine ⟨⟨k + 1, A9, c9, by omega, by go_num, rfl, HR9.out, HN9.out, Hb9.out⟩, rfl⟩
            case measure => simp [intOf] <;> omega
          · obtain rfl : k = xs.length := by omega
            have hr5 := HR5.out
            rw [List.take_of_length_le (Nat.le_refl _)] at hr5
            have HR6 := Lib.hid hr5
            have HA := Lib.hid (HAp.out wr Hb.out)
            clear hr5 HR5
            go_wp2_with fail
            refine HA.out.mono ?_
            rintro e w4 ⟨hb4, ⟨hbd, rfl⟩ | ⟨hbd, v4, rfl, Hown4⟩⟩
            · exact absurd (Hbad.out.symm.trans hbd) (by decide)
            obtain ⟨A4, c4, rfl, -, -, hr4, -⟩ := own_rd4 Hown4.out
            have HR7 : Hid (Rd w4 A5 (nv (bitsOf (apL l xs)))) := HR6.out.below hb4
            have hB4 := Bits_any (apL l xs) A4 c4 w4 hr4 (by rw [apL_length]; omega)
            rw [apL_length] at hB4
            have HB4 := Lib.hid hB4
            have Hb5 : Hid (Below w.heap.size w w4) := bnext Hb.out hb4
            have Hll : Hid ((bitsOf (apL l xs)).length = 8 * l.length) := by show _ = _; rw [bitsOf_length, apL_length]
            clear hB4 hr4 Hown4 hb4 HA HR6 Hb HAp
            go_wp2_with fail
            refine HB4.out.mono ?_
            rintro e w5 ⟨v5, rfl, hown5, hb6⟩
            obtain ⟨A6, c6, rfl, -, hr6, -⟩ := own_nilcap hown5
            have HR8 : Hid (Rd w5 A5 (nv (bitsOf (apL l xs)))) := HR7.out.below hb6
            have Hb7 : Hid (Below w.heap.size w w5) := bnext Hb5.out hb6
            have HR9 := Lib.hid hr6
            clear hown5 hr6 HR7 Hb5 hb6 HB4
            generalize bitsOf (apL l xs) = D at *
            go_wp2_with fail
            go_loopw [14] (fun i wr => ∃ k : Nat, k ≤ 8 * l.length ∧ i = .int .i64 k ∧ Hid (Below w5.heap.size w5 wr)) (fun i _ => 8 * l.length - (intOf i).toNat)
            case atStart => exact ⟨0, by omega, rfl, Below.refl _ _⟩
            case round =>
              obtain ⟨k, hk, rfl, Hb⟩ := hrel
              by_cases hkk : k < 8 * l.length
              · have hkD : k < (nv D).length := by rw [nv_length, Hll.out]; exact hkk
                obtain ⟨b2, o2, rfl, hc0⟩ := (HR8.out.below Hb.out).at_ hkD
                obtain ⟨b3, o3, rfl, hc1⟩ := (HR9.out.below Hb.out).at_ hkD
                have e2 := nv_get D k (by rw [Hll.out]; exact hkk)
                rw [List.getElem?_eq_getElem hkD] at e2
                rw [Option.some.inj e2] at hc0 hc1
                clear e2 hkD
                generalize D[k]'(by rw [Hll.out]; exact hkk) = x at *
                have hi0 : (0 : Int) ≤ k := by omega
                have hi1 : (k : Int) < 8 * (l.length : Int) := by omega
                go_wp2_with fail
                go_quiet (fail)
                go_wp2_with fail
                go_roundw
                case rel => exact ⟨k + 1, by omega, by go_num, below_drewN Hb.out _⟩
                case measure => simp [intOf] <;> omega
              · obtain rfl : k = 8 * l.length := by omega
                have hb9 : Below w.heap.size w wr := bnext Hb7.out Hb.out
                go_wp2_with fail
                (refine (awake_any _).mono ?_; rintro e w9 ⟨rfl, hb9⟩; go_wp2_with fail; go_ret; exact ⟨rfl, by repeat (first | exact Below.refl _ _ | assumption | refine below_drewN ?_ _ | refine Below.drew ?_ | refine Below.alloc ?_ (Nat.le_refl _) _ | refine bal ?_ _ | refine bnext ?_ (by assumption))⟩)
      · go_wp2_with fail
        go_loopw [5, 10] (fun v i wr => i = .int .i64 0 ∧ wr = wo) (fun _ _ _ => 0)
        case atStart => exact ⟨rfl, rfl⟩
        case round =>
          obtain ⟨rfl, rfl⟩ := hrel
          by_cases hx0 : (0 : Int) < xs.length
          all_goals
            go_wp2_with fail
            refine HA.out.mono ?_
            rintro e w4 ⟨hb4, ⟨hbd, rfl⟩ | ⟨hbd, v4, rfl, Hown4⟩⟩
            · have hb5 := bnext Hbr.out hb4
              go_wp2_with fail
              (refine (awake_any _).mono ?_; rintro e w9 ⟨rfl, hb9⟩; go_wp2_with fail; go_ret; exact ⟨rfl, by repeat (first | exact Below.refl _ _ | assumption | refine below_drewN ?_ _ | refine Below.drew ?_ | refine Below.alloc ?_ (Nat.le_refl _) _ | refine bal ?_ _ | refine bnext ?_ (by assumption))⟩)
            · exact absurd (Hbad.out.symm.trans hbd) (by decide)
end Go.Proofs.Yticfmhmkgcdhgaa
