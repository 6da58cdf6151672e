/-
  jetsamlaw03.CodedOrder: its walk. (Printed by wip/gen/order03.py.)
-/
import Derived.Test.YtjiopnjmklampaaDoorMono
import Derived.Test.YtjiopnjmklampaaDoorCodeLaw
import Derived.Test.YtjiopnjmklampaaDoorAwake03
namespace Go.Proofs.YtjiopnjmklampaaDoor
open Go.RowKit

/-- Put of any number. -/
theorem put_all (n : Int) (w : World) (ht : TabAt w) :
    Calls Tryd.prog 7 #[.int .i64 n] w fun e w' => ∃ A l c f, e = .returned (.tuple #[.slice A l c, .int .i64 f]) ∧ ((f = 10 ∧ (n < 0 ∨ 68719476735 < n)) ∨ (f = 0 ∧ ∃ m : Nat, n = m ∧ m < 68719476736 ∧ l = (codeN m).length ∧ l ≤ c ∧ Hid (Rd w' A (nv8 (codeN m))))) ∧ Below w.heap.size w w' := by
  by_cases hn : n < 0 ∨ 68719476735 < n
  · refine (put_no n hn w).mono ?_
    rintro e w1 ⟨rfl, hb1⟩
    exact ⟨none, 0, 0, 10, rfl, .inl ⟨rfl, hn⟩, hb1⟩
  · obtain ⟨m, rfl⟩ : ∃ m : Nat, n = m := ⟨n.toNat, by omega⟩
    refine (put_rd m (by omega) w ht).mono ?_
    rintro e w1 ⟨A, c, rfl, hc, -, hr, hb⟩
    exact ⟨A, _, c, 0, rfl, .inr ⟨rfl, m, rfl, by omega, rfl, hc, hr⟩, hb⟩
theorem bt_get (n i : Nat) (h : i < (codeN n).length) : (nv8 (codeN n))[i]? = some (.int .u8 (bt n i : Nat)) := by
  simp [nv8, bt, List.getD_eq_getElem?_getD, List.getElem?_eq_getElem h]

set_option maxRecDepth 100000 in
set_option maxHeartbeats 1000000 in
theorem order_walk (n m : Int) (w : World) (ht : TabAt w) :
    Calls Tryd.prog 5 #[.int .i64 n, .int .i64 m] w fun e w' => e = .returned (.bool true) ∧ Below w.heap.size w w' := by
  have Ht := Lib.hid ht; clear ht
  go_enter Tryd.func5, Tryd.ntmps5
  go_wp2_with fail
  refine (put_all n _ Ht.out).mono ?_
  rintro e w1 ⟨A1, l1, c1, f1, rfl, h1, hb1⟩
  have H1 := Lib.hid h1
  clear h1
  go_wp2_with fail
  refine (put_all m _ (Ht.out.below hb1)).mono ?_
  rintro e w2 ⟨A2, l2, c2, f2, rfl, h2, hb2'⟩
  have hb2 := bnext hb1 hb2'
  rcases H1.out with ⟨rfl, -⟩ | ⟨rfl, a, rfl, ha, rfl, hc1, Hr1⟩
  · rcases h2 with ⟨rfl, -⟩ | ⟨rfl, b, rfl, hb, rfl, hc2, Hr2⟩
    · clear H1
      go_wp2_with fail
      refine (awake_any _ (Ht.out.below hb2)).mono ?_
      rintro e w3 ⟨rfl, hb3⟩
      go_wp2_with fail
      go_ret
      exact ⟨rfl, bnext hb2 hb3⟩
    · clear H1 Hr2
      go_wp2_with fail
      refine (awake_any _ (Ht.out.below hb2)).mono ?_
      rintro e w3 ⟨rfl, hb3⟩
      go_wp2_with fail
      go_ret
      exact ⟨rfl, bnext hb2 hb3⟩
  · rcases h2 with ⟨rfl, -⟩ | ⟨rfl, b, rfl, hb, rfl, hc2, Hr2⟩
    · clear H1 Hr1
      go_wp2_with fail
      refine (awake_any _ (Ht.out.below hb2)).mono ?_
      rintro e w3 ⟨rfl, hb3⟩
      go_wp2_with fail
      go_ret
      exact ⟨rfl, bnext hb2 hb3⟩
    · clear H1
      have Hr1' : Hid (Rd w2 A1 (nv8 (codeN a))) := Hr1.out.below hb2'
      clear Hr1 hb2' hb1
      have hs1 := (szN_pos a).2
      have hs2 := (szN_pos b).2
      have L1 := codeN_length a
      have L2 := codeN_length b
      obtain ⟨p, hp⟩ : ∃ p, (codeN a).length = p := ⟨_, rfl⟩
      obtain ⟨q, hq⟩ : ∃ p, (codeN b).length = p := ⟨_, rfl⟩
      have Hp := Lib.hid hp
      have Hq := Lib.hid hq
      rw [hp] at L1 hc1
      rw [hq] at L2 hc2
      rw [← L1] at hs1
      rw [← L2] at hs2
      rw [hp, hq]
      have Hd : Hid (∀ i, i < p → i < q → (∀ j, j < i → bt a j = bt b j) → bt a i ≠ bt b i → (bt a i < bt b i ↔ a < b) ∧ a ≠ b) := by
        intro i hi hi' h1 h2
        exact order_diff a b ha hb i (by omega) (by omega) h1 h2
      have Hs : Hid ((∀ j, j < p → j < q → bt a j = bt b j) → a = b) := fun h => order_same a b ha hb (fun j h1 h2 => h j (by omega) (by omega))
      have HL1 := Lib.hid L1
      have HL2 := Lib.hid L2
      clear L1 L2 hp hq
      go_wp2_with fail
      go_loopw [9] (fun i wr => ∃ k : Nat, k ≤ p ∧ k ≤ q ∧ i = .int .i64 k ∧ Hid (∀ j, j < k → bt a j = bt b j) ∧ Hid (Below w2.heap.size w2 wr)) (fun i _ => p - (intOf i).toNat)
      case atStart => exact ⟨0, by omega, by omega, rfl, fun j hj => by omega, Below.refl _ _⟩
      case round =>
        obtain ⟨k, hk, hk', rfl, Heq, Hb⟩ := hrel
        by_cases hkp : k < p
        · by_cases hkq : k < q
          · obtain ⟨b1, o1, rfl, hx⟩ := (Hr1'.out.below Hb.out) k _ (bt_get a k (by have := Hp.out; omega))
            obtain ⟨b2, o2, rfl, hy⟩ := (Hr2.out.below Hb.out) k _ (bt_get b k (by have := Hq.out; omega))
            have Hdk := Lib.hid (Hd.out k hkp hkq Heq.out)
            have Hek : Hid (bt a k = bt b k → ∀ j, j < k + 1 → bt a j = bt b j) := by
              intro h j hj
              rcases Nat.lt_or_ge j k with h1 | h1
              · exact Heq.out j h1
              · obtain rfl : j = k := by omega
                exact h
            have hi0 : (0 : Int) ≤ (k : Int) := by omega
            have hi1 : (k : Int) < p := by omega
            have hi2 : (k : Int) < q := by omega
            generalize bt a k = x at *
            generalize bt b k = y at *
            by_cases hxy : x = y
            · have Hxy := Lib.hid hxy
              have hne : ((x : Int) != (y : Int)) = false := by rw [bne_eq_false_iff_eq]; omega
              clear hxy
              go_wp2_with fail
              go_quiet (fail)
              go_wp2_with fail
              go_roundw
              case rel => exact ⟨k + 1, by omega, by omega, by go_num, Hek.out Hxy.out, by show Below _ _ _; have := Hb.out; repeat (first | exact Below.refl _ _ | assumption | refine below_drewN ?_ _ | refine Below.drew ?_ | refine Below.alloc ?_ (Nat.le_refl _) _ | refine bal ?_ _ | refine bnext ?_ (by assumption))⟩
              case measure => simp [intOf] <;> omega
            · obtain ⟨hlt, hab⟩ := Hdk.out hxy
              have hne : ((x : Int) != (y : Int)) = true := by rw [bne_iff_ne]; omega
              obtain ⟨B, hB⟩ : ∃ B, decide (a < b) = B := ⟨_, rfl⟩
              have e1 : decide ((x : Int) < (y : Int)) = B := by rw [← hB, decide_eq_decide]; omega
              have e2 : decide ((a : Int) < (b : Int)) = B := by rw [← hB, decide_eq_decide]; omega
              have e1' : decide (x < y) = B := by rw [← hB, decide_eq_decide]; omega
              have e2' : decide (a < b) = B := hB
              have e3 : ((a : Int) != (b : Int)) = true := by rw [bne_iff_ne]; omega
              clear hxy hlt hab hB
              go_wp2_with fail
              go_quiet (fail)
              go_wp2_with fail
              obtain ⟨w5, hw5⟩ : ∃ w5, wr.drewN nq = w5 := ⟨_, rfl⟩
              have Hb5 : Hid (Below w2.heap.size w2 w5) := by rw [← hw5]; show Below _ _ _; have := Hb.out; repeat (first | exact Below.refl _ _ | assumption | refine below_drewN ?_ _ | refine Below.drew ?_ | refine Below.alloc ?_ (Nat.le_refl _) _ | refine bal ?_ _ | refine bnext ?_ (by assumption))
              have hx5 : w5.cell? ⟨b1, o1 + k, none⟩ = some (.int .u8 x) := by rw [← hw5]; exact hx
              have hy5 : w5.cell? ⟨b2, o2 + k, none⟩ = some (.int .u8 y) := by rw [← hw5]; exact hy
              have hl1 := cell_lt hx5
              have hl2 := cell_lt hy5
              rw [hw5]
              clear hw5 hx hy Hb
              have Q1 : Hid (∀ W, Below w5.heap.size w5 W → W.cell? ⟨b1, o1 + k, none⟩ = some (.int .u8 x)) := fun W hW => (hW.cell (p := ⟨b1, o1 + k, none⟩) hl1).trans hx5
              have Q2 : Hid (∀ W, Below w5.heap.size w5 W → W.cell? ⟨b2, o2 + k, none⟩ = some (.int .u8 y)) := fun W hW => (hW.cell (p := ⟨b2, o2 + k, none⟩) hl2).trans hy5
              have Q3 : Hid (∀ W, Below w5.heap.size w5 W → TabAt W) := fun W hW => ((Ht.out.below hb2).below Hb5.out).below hW
              clear hx5 hy5 hl1 hl2
              refine wp_region_specs [
                Spec.val (.slice (some ⟨b1, o1, none⟩) p c1),
                Spec.val (.int .i64 k),
                Spec.val (.pointer (some ⟨b1, o1 + k, none⟩)),
                Spec.val (.int .u8 x),
                Spec.val (.slice (some ⟨b2, o2, none⟩) q c2),
                Spec.val (.int .i64 k),
                Spec.val (.pointer (some ⟨b2, o2 + k, none⟩)),
                Spec.val (.int .u8 y),
                Spec.val (.bool B),
                Spec.val (.int .i64 a),
                Spec.val (.int .i64 b),
                Spec.val (.bool B),
                Spec.val (.bool true),
                Spec.val (.bool true),
                Spec.val (.int .i64 a),
                Spec.val (.int .i64 b),
                Spec.val (.bool true),
                Spec.val (.bool true),
                Spec.val (.bool true),
                Spec.val (.bool true),
                Spec.val (.bool true),
                Spec.val (.bool true)] w5 (by kernel_rfl) (by repeat (first | exact Below.refl _ _ | assumption | refine below_drewN ?_ _ | refine Below.drew ?_ | refine Below.alloc ?_ (Nat.le_refl _) _ | refine bal ?_ _ | refine bnext ?_ (by assumption))) (n := 98) rfl (by decide +kernel) ⟨?_, ?_, ?_, ?_, ?_, ?_, ?_, ?_, ?_, ?_, ?_, ?_, ?_, ?_, ?_, ?_, ?_, ?_, ?_, ?_, ?_, ?_, trivial⟩ ?_
              · intro ac wd hJ hfr hdep
                have s5 : ac.tmps.getD 5 undef = .slice (some ⟨b1, o1, none⟩) p c1 := (hfr 5 (by decide)).trans rfl
                have s5' := slot' s5
                clear hfr hdep
                refine if_wanted rfl (fun Q => op_any (fun K hK => ?_))
                go_simp
                exact hK _ _ rfl hJ (Below.refl _ _)
              · intro ac wd hJ hfr hdep
                have s9 : ac.tmps.getD 9 undef = .int .i64 k := (hfr 9 (by decide)).trans rfl
                have s9' := slot' s9
                clear hfr hdep
                refine if_wanted rfl (fun Q => op_any (fun K hK => ?_))
                go_simp
                exact hK _ _ rfl hJ (Below.refl _ _)
              · intro ac wd hJ hfr hdep
                have s64 : ac.tmps.getD 64 undef = .slice (some ⟨b1, o1, none⟩) p c1 := hdep 0 _ 64 (by decide) rfl rfl
                have s65 : ac.tmps.getD 65 undef = .int .i64 k := hdep 1 _ 65 (by decide) rfl rfl
                have s64' := slot' s64
                have s65' := slot' s65
                clear hfr hdep
                refine if_wanted rfl (fun Q => op_any (fun K hK => ?_))
                go_simp
                exact hK _ _ rfl hJ (Below.refl _ _)
              · intro ac wd hJ hfr hdep
                have s66 : ac.tmps.getD 66 undef = .pointer (some ⟨b1, o1 + k, none⟩) := hdep 2 _ 66 (by decide) rfl rfl
                have s66' := slot' s66
                clear hfr hdep
                refine if_wanted rfl (fun Q => op_any (fun K hK => ?_))
                have hx := Q1.out wd hJ
                go_simp
                exact hK _ _ rfl hJ (Below.refl _ _)
              · intro ac wd hJ hfr hdep
                have s7 : ac.tmps.getD 7 undef = .slice (some ⟨b2, o2, none⟩) q c2 := (hfr 7 (by decide)).trans rfl
                have s7' := slot' s7
                clear hfr hdep
                refine if_wanted rfl (fun Q => op_any (fun K hK => ?_))
                go_simp
                exact hK _ _ rfl hJ (Below.refl _ _)
              · intro ac wd hJ hfr hdep
                have s9 : ac.tmps.getD 9 undef = .int .i64 k := (hfr 9 (by decide)).trans rfl
                have s9' := slot' s9
                clear hfr hdep
                refine if_wanted rfl (fun Q => op_any (fun K hK => ?_))
                go_simp
                exact hK _ _ rfl hJ (Below.refl _ _)
              · intro ac wd hJ hfr hdep
                have s68 : ac.tmps.getD 68 undef = .slice (some ⟨b2, o2, none⟩) q c2 := hdep 4 _ 68 (by decide) rfl rfl
                have s69 : ac.tmps.getD 69 undef = .int .i64 k := hdep 5 _ 69 (by decide) rfl rfl
                have s68' := slot' s68
                have s69' := slot' s69
                clear hfr hdep
                refine if_wanted rfl (fun Q => op_any (fun K hK => ?_))
                go_simp
                exact hK _ _ rfl hJ (Below.refl _ _)
              · intro ac wd hJ hfr hdep
                have s70 : ac.tmps.getD 70 undef = .pointer (some ⟨b2, o2 + k, none⟩) := hdep 6 _ 70 (by decide) rfl rfl
                have s70' := slot' s70
                clear hfr hdep
                refine if_wanted rfl (fun Q => op_any (fun K hK => ?_))
                have hx := Q2.out wd hJ
                go_simp
                exact hK _ _ rfl hJ (Below.refl _ _)
              · intro ac wd hJ hfr hdep
                have s67 : ac.tmps.getD 67 undef = .int .u8 x := hdep 3 _ 67 (by decide) rfl rfl
                have s71 : ac.tmps.getD 71 undef = .int .u8 y := hdep 7 _ 71 (by decide) rfl rfl
                have s67' := slot' s67
                have s71' := slot' s71
                clear hfr hdep
                refine if_wanted rfl (fun Q => op_any (fun K hK => ?_))
                go_simp
                exact hK _ _ rfl hJ (Below.refl _ _)
              · intro ac wd hJ hfr hdep
                have s0 : ac.tmps.getD 0 undef = .int .i64 a := (hfr 0 (by decide)).trans rfl
                have s0' := slot' s0
                clear hfr hdep
                refine if_wanted rfl (fun Q => op_any (fun K hK => ?_))
                go_simp
                exact hK _ _ rfl hJ (Below.refl _ _)
              · intro ac wd hJ hfr hdep
                have s1 : ac.tmps.getD 1 undef = .int .i64 b := (hfr 1 (by decide)).trans rfl
                have s1' := slot' s1
                clear hfr hdep
                refine if_wanted rfl (fun Q => op_any (fun K hK => ?_))
                go_simp
                exact hK _ _ rfl hJ (Below.refl _ _)
              · intro ac wd hJ hfr hdep
                have s73 : ac.tmps.getD 73 undef = .int .i64 a := hdep 9 _ 73 (by decide) rfl rfl
                have s74 : ac.tmps.getD 74 undef = .int .i64 b := hdep 10 _ 74 (by decide) rfl rfl
                have s73' := slot' s73
                have s74' := slot' s74
                clear hfr hdep
                refine if_wanted rfl (fun Q => op_any (fun K hK => ?_))
                go_simp
                exact hK _ _ rfl hJ (Below.refl _ _)
              · intro ac wd hJ hfr hdep
                have s72 : ac.tmps.getD 72 undef = .bool B := hdep 8 _ 72 (by decide) rfl rfl
                have s75 : ac.tmps.getD 75 undef = .bool B := hdep 11 _ 75 (by decide) rfl rfl
                have s72' := slot' s72
                have s75' := slot' s75
                clear hfr hdep
                refine if_wanted rfl (fun Q => op_any (fun K hK => ?_))
                go_simp
                exact hK _ _ rfl hJ (Below.refl _ _)
              · intro ac wd hJ hfr hdep
                have s76 : ac.tmps.getD 76 undef = .bool true := hdep 12 _ 76 (by decide) rfl rfl
                have s76' := slot' s76
                clear hfr hdep
                refine if_wanted rfl (fun Q => op_any (fun K hK => ?_))
                go_simp
                exact hK _ _ rfl hJ (Below.refl _ _)
              · intro ac wd hJ hfr hdep
                have sg : ac.tmps.getD 77 undef = .bool true := hdep 13 _ 77 (by decide) rfl rfl
                have s0 : ac.tmps.getD 0 undef = .int .i64 a := (hfr 0 (by decide)).trans rfl
                have s0' := slot' s0
                clear hfr hdep
                refine if_wanted (wanted_yes rfl rfl rfl sg) (fun Q => op_any (fun K hK => ?_))
                go_simp
                exact hK _ _ rfl hJ (Below.refl _ _)
              · intro ac wd hJ hfr hdep
                have sg : ac.tmps.getD 77 undef = .bool true := hdep 13 _ 77 (by decide) rfl rfl
                have s1 : ac.tmps.getD 1 undef = .int .i64 b := (hfr 1 (by decide)).trans rfl
                have s1' := slot' s1
                clear hfr hdep
                refine if_wanted (wanted_yes rfl rfl rfl sg) (fun Q => op_any (fun K hK => ?_))
                go_simp
                exact hK _ _ rfl hJ (Below.refl _ _)
              · intro ac wd hJ hfr hdep
                have sg : ac.tmps.getD 77 undef = .bool true := hdep 13 _ 77 (by decide) rfl rfl
                have s78 : ac.tmps.getD 78 undef = .int .i64 a := hdep 14 _ 78 (by decide) rfl rfl
                have s79 : ac.tmps.getD 79 undef = .int .i64 b := hdep 15 _ 79 (by decide) rfl rfl
                have s78' := slot' s78
                have s79' := slot' s79
                clear hfr hdep
                refine if_wanted (wanted_yes rfl rfl rfl sg) (fun Q => op_any (fun K hK => ?_))
                go_simp
                exact hK _ _ rfl hJ (Below.refl _ _)
              · intro ac wd hJ hfr hdep
                have s77 : ac.tmps.getD 77 undef = .bool true := hdep 13 _ 77 (by decide) rfl rfl
                have s80 : ac.tmps.getD 80 undef = .bool true := hdep 16 _ 80 (by decide) rfl rfl
                have s77' := slot' s77
                have s80' := slot' s80
                clear hfr hdep
                refine if_wanted rfl (fun Q => op_any (fun K hK => ?_))
                go_simp
                exact hK _ _ rfl hJ (Below.refl _ _)
              · intro ac wd hJ hfr hdep
                have s81 : ac.tmps.getD 81 undef = .bool true := hdep 17 _ 81 (by decide) rfl rfl
                have s81' := slot' s81
                clear hfr hdep
                refine if_wanted rfl (fun Q => op_any (fun K hK => ?_))
                go_simp
                exact hK _ _ rfl hJ (Below.refl _ _)
              · intro ac wd hJ hfr hdep
                have sg : ac.tmps.getD 82 undef = .bool true := hdep 18 _ 82 (by decide) rfl rfl
                clear hfr hdep
                refine if_wanted (wanted_yes rfl rfl rfl sg) (fun Q => op_any (fun K hK => ?_))
                go_simp
                refine (awake_any _ (Q3.out _ hJ)).mono ?_
                rintro e w1 ⟨rfl, hb1⟩
                exact hK _ _ rfl (bnext hJ hb1) hb1
              · intro ac wd hJ hfr hdep
                have s82 : ac.tmps.getD 82 undef = .bool true := hdep 18 _ 82 (by decide) rfl rfl
                have s83 : ac.tmps.getD 83 undef = .bool true := hdep 19 _ 83 (by decide) rfl rfl
                have s82' := slot' s82
                have s83' := slot' s83
                clear hfr hdep
                refine if_wanted rfl (fun Q => op_any (fun K hK => ?_))
                go_simp
                exact hK _ _ rfl hJ (Below.refl _ _)
              · intro ac wd hJ hfr hdep
                have s84 : ac.tmps.getD 84 undef = .bool true := hdep 20 _ 84 (by decide) rfl rfl
                have s84' := slot' s84
                clear hfr hdep
                refine if_wanted rfl (fun Q => op_any (fun K hK => ?_))
                go_simp
                exact hK _ _ rfl hJ (Below.refl _ _)
              intro f w' hJ hR
              have e0 : f 0 = .slice (some ⟨b1, o1, none⟩) p c1 := hR 0 (by decide)
              have e1 : f 1 = .int .i64 k := hR 1 (by decide)
              have e2 : f 2 = .pointer (some ⟨b1, o1 + k, none⟩) := hR 2 (by decide)
              have e3 : f 3 = .int .u8 x := hR 3 (by decide)
              have e4 : f 4 = .slice (some ⟨b2, o2, none⟩) q c2 := hR 4 (by decide)
              have e5 : f 5 = .int .i64 k := hR 5 (by decide)
              have e6 : f 6 = .pointer (some ⟨b2, o2 + k, none⟩) := hR 6 (by decide)
              have e7 : f 7 = .int .u8 y := hR 7 (by decide)
              have e8 : f 8 = .bool B := hR 8 (by decide)
              have e9 : f 9 = .int .i64 a := hR 9 (by decide)
              have e10 : f 10 = .int .i64 b := hR 10 (by decide)
              have e11 : f 11 = .bool B := hR 11 (by decide)
              have e12 : f 12 = .bool true := hR 12 (by decide)
              have e13 : f 13 = .bool true := hR 13 (by decide)
              have e14 : f 14 = .int .i64 a := hR 14 (by decide)
              have e15 : f 15 = .int .i64 b := hR 15 (by decide)
              have e16 : f 16 = .bool true := hR 16 (by decide)
              have e17 : f 17 = .bool true := hR 17 (by decide)
              have e18 : f 18 = .bool true := hR 18 (by decide)
              have e19 : f 19 = .bool true := hR 19 (by decide)
              have e20 : f 20 = .bool true := hR 20 (by decide)
              have e21 : f 21 = .bool true := hR 21 (by decide)
              clear hR
              simp only [finA, Act.put, List.setIfInBounds_toArray, List.set_cons_succ, List.set_cons_zero, Nat.reduceAdd, e0, e1, e2, e3, e4, e5, e6, e7, e8, e9, e10, e11, e12, e13, e14, e15, e16, e17, e18, e19, e20, e21]
              clear e0 e1 e2 e3 e4 e5 e6 e7 e8 e9 e10 e11 e12 e13 e14 e15 e16 e17 e18 e19 e20 e21
              have hend : Below w.heap.size w w' := bnext (bnext hb2 Hb5.out) hJ
              go_wp2_with fail
              go_ret
              exact ⟨rfl, hend⟩
          · have hk1 : (k : Int) < p := by omega
            have hk2 : ¬ (k : Int) < q := by omega
            have hab : a = b := Hs.out (fun j h1 h2 => Heq.out j (by omega))
            subst hab
            exact absurd (Hp.out.symm.trans Hq.out) (by omega)
        · have hk1 : ¬ (k : Int) < p := by omega
          have hab : a = b := Hs.out (fun j h1 h2 => Heq.out j (by omega))
          subst hab
          have hpq : p = q := Hp.out.symm.trans Hq.out
          subst hpq
          have hb4 := bnext hb2 Hb.out
          go_wp2_with fail
          refine (awake_any _ (Ht.out.below hb4)).mono ?_
          rintro e w3 ⟨rfl, hb3⟩
          go_wp2_with fail
          go_ret
          exact ⟨rfl, bnext hb4 hb3⟩
end Go.Proofs.YtjiopnjmklampaaDoor
