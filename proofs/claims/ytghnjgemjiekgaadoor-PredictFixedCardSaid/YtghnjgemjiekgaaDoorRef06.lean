/-
  jetsamref06: Check, may, Told, Residual; jetsamlaw01.Ints; jetsamlaw06.Plain.
-/
import Derived.Test.YtghnjgemjiekgaaDoorBest06
namespace Go.Proofs.YtghnjgemjiekgaaDoor
open Go.RowKit

set_option maxHeartbeats 800000 in
theorem ints_any (l m : List Int) (A B : Option Addr) (c d : Nat) (w : World) (hl : Rd w A (zv l)) (hm : Rd w B (zv m)) (h63 : l.length < 9223372036854775807) :
    Calls Tryd.prog 14 #[.slice A l.length c, .slice B m.length d] w fun e w' => e = .returned (.bool (decide (l = m))) ∧ Below w.heap.size w w' := by
  have Hl := Lib.hid hl; clear hl
  have Hm := Lib.hid hm; clear hm
  by_cases hlen : l.length = m.length
  · have hx : ((l.length : Int) != (m.length : Int)) = false := by rw [bne_eq_false_iff_eq]; omega
    have Hlen := Lib.hid hlen
    clear hlen
    go_enter Tryd.func14, Tryd.ntmps14
    go_wp2_with fail
    go_loopw [5] (fun i wr => ∃ k : Nat, k ≤ l.length ∧ i = .int .i64 k ∧ Below w.heap.size w wr ∧ Hid (l.take k = m.take k)) (fun i _ => l.length - (intOf i).toNat)
    case atStart => exact ⟨0, by omega, rfl, Below.refl _ _, by simp [Hid]⟩
    case round =>
      obtain ⟨k, hk, rfl, hb, Ht⟩ := hrel
      by_cases hkk : k < l.length
      · have hkm : k < m.length := by have := Hlen.out; omega
        obtain ⟨b1, o1, rfl, hc1⟩ := (Hl.out.below hb) k (.int .i64 l[k]) (by simp [zv, hkk])
        obtain ⟨b2, o2, rfl, hc2⟩ := (Hm.out.below hb) k (.int .i64 m[k]) (by simp [zv, hkm])
        have hi0 : (0 : Int) ≤ (k : Int) := by omega
        have hi1 : (k : Int) < l.length := by omega
        have hi2 : (k : Int) < m.length := by omega
        have Hs : Hid (l[k] = m[k] → l.take (k + 1) = m.take (k + 1)) := by
          intro h
          rw [List.take_succ_eq_append_getElem hkk, List.take_succ_eq_append_getElem hkm, Ht.out, h]
        have Hn : Hid (l[k] ≠ m[k] → l ≠ m) := by
          intro h e; subst e; exact h rfl
        generalize l[k] = x at *
        generalize m[k] = y at *
        by_cases hxy : x = y
        · have Hxy := Lib.hid hxy
          have hq : (x != y) = false := by rw [bne_eq_false_iff_eq]; exact hxy
          clear hxy
          go_wp2_with fail
          go_quiet (fail)
          go_wp2_with fail
          go_roundw
          case rel => exact ⟨k + 1, by omega, by go_num, by repeat (first | exact Below.refl _ _ | assumption | refine below_drewN ?_ _ | refine Below.drew ?_ | refine Below.alloc ?_ (Nat.le_refl _) _ | refine bal ?_ _ | refine bnext ?_ (by assumption)), Hs.out Hxy.out⟩
          case measure => simp [intOf] <;> omega
        · have Hxy := Lib.hid hxy
          have hq : (x != y) = true := by rw [bne_iff_ne]; exact hxy
          clear hxy
          go_wp2_with fail
          go_quiet (fail)
          go_wp2_with fail
          go_ret
          exact ⟨ret_bool (decide_eq_false (Hn.out Hxy.out)).symm, by repeat (first | exact Below.refl _ _ | assumption | refine below_drewN ?_ _ | refine Below.drew ?_ | refine Below.alloc ?_ (Nat.le_refl _) _ | refine bal ?_ _ | refine bnext ?_ (by assumption))⟩
      · obtain rfl : k = l.length := by omega
        have He : Hid (l = m) := by
          have h := Ht.out
          rw [List.take_of_length_le (Nat.le_refl _), List.take_of_length_le (by rw [Hlen.out]; exact Nat.le_refl _)] at h
          exact h
        go_wp2_with fail
        go_ret
        exact ⟨ret_bool (decide_eq_true He.out).symm, hb⟩
  · have hx : ((l.length : Int) != (m.length : Int)) = true := by rw [bne_iff_ne]; omega
    have Hn : Hid (l ≠ m) := fun e => hlen (by rw [e])
    clear hlen
    go_enter Tryd.func14, Tryd.ntmps14
    go_wp2_with fail
    go_ret
    exact ⟨ret_bool (decide_eq_false Hn.out).symm, Below.refl _ _⟩

set_option maxHeartbeats 400000 in
theorem Plain_any (pr sh : Int) (A : Option Addr) (m c : Nat) (w : World) :
    Calls Tryd.prog 11 #[.agg #[.int .i64 pr, .int .i64 sh, .slice A m c]] w fun e w' => e = .returned (.agg #[.int .i64 pr, .int .i64 sh, .slice A m c]) ∧ Below w.heap.size w w' := by
  go_enter Tryd.func11, Tryd.ntmps11
  go_wp2_with fail
  exact bodyPost_ret (v := .agg #[.int .i64 pr, .int .i64 sh, .slice A m c]) (by simp [results, Tryd.results11, go_sem]) rfl ⟨rfl, by repeat (first | exact Below.refl _ _ | assumption | refine below_drewN ?_ _ | refine Below.drew ?_ | refine Below.alloc ?_ (Nat.le_refl _) _ | refine bal ?_ _ | refine bnext ?_ (by assumption))⟩

theorem rmay_still (x : Int) (w : World) : Calls Tryd.prog 23 #[.int .i64 x] w fun e w' => e = .returned (.bool (!outS x)) ∧ w' = w := by
  by_cases h1 : x < -4294967296
  · have h : Hid (outS x = true) := by show _ = _; simp [outS, h1]
    go_enter Tryd.func23, Tryd.ntmps23
    go_wp2_with fail
    go_ret
    exact ⟨ret_bool (by rw [h.out]; first | rfl | (simp; omega)), rfl⟩
  · have h1' : -4294967296 ≤ x := by omega
    by_cases h2 : 4294967296 ≤ x
    · have h : Hid (outS x = true) := by show _ = _; simp [outS, h2]
      go_enter Tryd.func23, Tryd.ntmps23
      go_wp2_with fail
      go_ret
      exact ⟨ret_bool (by rw [h.out]; first | rfl | (simp; omega)), rfl⟩
    · have h : Hid (outS x = false) := by show _ = _; simp [outS]; omega
      go_enter Tryd.func23, Tryd.ntmps23
      go_wp2_with fail
      go_ret
      exact ⟨ret_bool (by rw [h.out]; first | rfl | (simp; omega)), rfl⟩

set_option maxHeartbeats 1000000 in
theorem RCheck_any (pr sh : Int) (cs : List Int) (A : Option Addr) (cc : Nat) (w : World) (hr : Rd w A (zv cs)) (hl : cs.length ≤ 9223372036854775807) :
    Calls Tryd.prog 13 #[.agg #[.int .i64 pr, .int .i64 sh, .slice A cs.length cc]] w fun e w' => e = .returned (.int .i64 (chkP (okL pr sh cs))) ∧ Below w.heap.size w w' := by
  by_cases h1 : cs.length ≤ 32
  · by_cases h2 : 1 ≤ pr
    · by_cases h3 : pr ≤ 15
      · by_cases h4 : 0 ≤ sh
        · by_cases h5 : sh ≤ 15
          · obtain ⟨e, he⟩ : ∃ e : Nat, pr = (e : Int) + 1 := ⟨(pr - 1).toNat, by omega⟩
            subst he
            have he : e ≤ 14 := by omega
            have hb := pow_bd e he
            have Hok : Hid (okL ((e : Int) + 1) sh cs = !cs.any (outC (2 ^ e))) := by
              show _ = _
              have e1 : ((e : Int) + 1 - 1).toNat = e := by omega
              unfold okL numB
              rw [decide_eq_true h1, decide_eq_true ⟨h2, h3⟩, decide_eq_true ⟨h4, h5⟩, e1]; simp
            rw [Hok.out]
            have Hr := Lib.hid hr
            clear hr Hok
            have hq : Hid (cs.any (outC (2 ^ e)) = (cs.drop 0).any (outC (2 ^ e))) := by show _ = _; simp
            go_enter Tryd.func13, Tryd.ntmps13
            go_wp2_with fail
            go_loopw [3] (fun iv wr => ∃ k : Nat, k ≤ cs.length ∧ iv = .int .i64 k ∧ Hid (cs.any (outC (2 ^ e)) = (cs.drop k).any (outC (2 ^ e))) ∧ Hid (Below w.heap.size w wr) ∧ Hid (wr.cell? ⟨w.heap.size, 0, none⟩ = some (.int .i64 ((e : Int) + 1))) ∧ Hid (wr.cell? ⟨w.heap.size, 2, none⟩ = some (.slice A cs.length cc))) (fun iv _ => cs.length - (intOf iv).toNat)
            case atStart => exact ⟨0, by omega, rfl, hq, by show Below _ _ _; repeat (first | exact Below.refl _ _ | assumption | refine below_drewN ?_ _ | refine Below.drew ?_ | refine Below.alloc ?_ (Nat.le_refl _) _ | refine bal ?_ _ | refine bnext ?_ (by assumption)), by show _ = _; go_simp, by show _ = _; go_simp⟩
            case round =>
              obtain ⟨k, hk, rfl, HK, Hb, H0, H2⟩ := hrel
              have hp0 := H0.out
              have hp2 := H2.out
              by_cases hkk : k < cs.length
              · obtain ⟨b, o, rfl, hc⟩ := (Hr.out.below Hb.out) k (.int .i64 cs[k]) (by simp [zv, hkk])
                have HN : Hid ((cs.drop k).any (outC (2 ^ e)) = (outC (2 ^ e) cs[k] || (cs.drop (k + 1)).any (outC (2 ^ e)))) := by
                  show _ = _
                  rw [List.drop_eq_getElem_cons hkk, List.any_cons]
                have HO : Hid (∀ x, outC (2 ^ e) x = (decide (x < -(2 ^ e)) || decide (2 ^ e ≤ x))) := fun _ => rfl
                have HO := Lib.hid (HO.out cs[k])
                generalize cs[k] = x at *
                by_cases hx1 : x < -(2 ^ e)
                · have hd1 : decide (x < -(2 ^ e)) = true := decide_eq_true hx1
                  have HR : Hid (cs.any (outC (2 ^ e)) = true) := by show _ = _; rw [HK.out, HN.out, HO.out, hd1]; rfl
                  go_wp2_with fail
                  go_quiet (fail)
                  go_wp2_with fail
                  go_ret
                  exact ⟨by rw [HR.out]; rfl, below_drewN Hb.out _⟩
                · have hd1 : decide (x < -(2 ^ e)) = false := decide_eq_false hx1
                  by_cases hx2 : 2 ^ e ≤ x
                  · have hd2 : decide (2 ^ e ≤ x) = true := decide_eq_true hx2
                    have HR : Hid (cs.any (outC (2 ^ e)) = true) := by show _ = _; rw [HK.out, HN.out, HO.out, hd1, hd2]; rfl
                    go_wp2_with fail
                    go_quiet (fail)
                    go_wp2_with fail
                    go_ret
                    exact ⟨by rw [HR.out]; rfl, below_drewN Hb.out _⟩
                  · have hd2 : decide (2 ^ e ≤ x) = false := decide_eq_false hx2
                    have HR : Hid (cs.any (outC (2 ^ e)) = (cs.drop (k + 1)).any (outC (2 ^ e))) := by show _ = _; rw [HK.out, HN.out, HO.out, hd1, hd2]; rfl
                    clear HK HN HO
                    go_wp2_with fail
                    go_quiet (fail)
                    go_wp2_with fail
                    go_roundw
                    case rel => exact ⟨k + 1, by omega, by go_num, HR, below_drewN Hb.out _, H0.out, H2.out⟩
                    case measure => simp [intOf] <;> omega
              · obtain rfl : k = cs.length := by omega
                have HR : Hid (cs.any (outC (2 ^ e)) = false) := by show _ = _; rw [HK.out]; simp
                go_wp2_with fail
                go_ret
                exact ⟨by rw [HR.out]; rfl, Hb.out⟩
          · have Hok : Hid (okL pr sh cs = false) := by
              show _ = _
              unfold okL numB
              rw [decide_eq_false (show ¬ (0 ≤ sh ∧ sh ≤ 15) from fun h => h5 h.2)]; simp
            rw [Hok.out]
            clear hr Hok
            generalize cs.length = n at *
            go_enter Tryd.func13, Tryd.ntmps13
            go_wp2_with fail
            go_ret
            exact ⟨rfl, by repeat (first | exact Below.refl _ _ | assumption | refine below_drewN ?_ _ | refine Below.drew ?_ | refine Below.alloc ?_ (Nat.le_refl _) _ | refine bal ?_ _ | refine bnext ?_ (by assumption))⟩
        · have Hok : Hid (okL pr sh cs = false) := by
            show _ = _
            unfold okL numB
            rw [decide_eq_false (show ¬ (0 ≤ sh ∧ sh ≤ 15) from fun h => h4 h.1)]; simp
          rw [Hok.out]
          clear hr Hok
          generalize cs.length = n at *
          go_enter Tryd.func13, Tryd.ntmps13
          go_wp2_with fail
          go_ret
          exact ⟨rfl, by repeat (first | exact Below.refl _ _ | assumption | refine below_drewN ?_ _ | refine Below.drew ?_ | refine Below.alloc ?_ (Nat.le_refl _) _ | refine bal ?_ _ | refine bnext ?_ (by assumption))⟩
      · have Hok : Hid (okL pr sh cs = false) := by
          show _ = _
          unfold okL numB
          rw [decide_eq_false (show ¬ (1 ≤ pr ∧ pr ≤ 15) from fun h => h3 h.2)]; simp
        rw [Hok.out]
        clear hr Hok
        generalize cs.length = n at *
        go_enter Tryd.func13, Tryd.ntmps13
        go_wp2_with fail
        go_ret
        exact ⟨rfl, by repeat (first | exact Below.refl _ _ | assumption | refine below_drewN ?_ _ | refine Below.drew ?_ | refine Below.alloc ?_ (Nat.le_refl _) _ | refine bal ?_ _ | refine bnext ?_ (by assumption))⟩
    · have Hok : Hid (okL pr sh cs = false) := by
        show _ = _
        unfold okL numB
        rw [decide_eq_false (show ¬ (1 ≤ pr ∧ pr ≤ 15) from fun h => h2 h.1)]; simp
      rw [Hok.out]
      clear hr Hok
      generalize cs.length = n at *
      go_enter Tryd.func13, Tryd.ntmps13
      go_wp2_with fail
      go_ret
      exact ⟨rfl, by repeat (first | exact Below.refl _ _ | assumption | refine below_drewN ?_ _ | refine Below.drew ?_ | refine Below.alloc ?_ (Nat.le_refl _) _ | refine bal ?_ _ | refine bnext ?_ (by assumption))⟩
  · have Hok : Hid (okL pr sh cs = false) := by
      show _ = _
      unfold okL numB
      rw [decide_eq_false (h1)]; simp
    rw [Hok.out]
    clear hr Hok
    generalize cs.length = n at *
    go_enter Tryd.func13, Tryd.ntmps13
    go_wp2_with fail
    go_ret
    exact ⟨rfl, by repeat (first | exact Below.refl _ _ | assumption | refine below_drewN ?_ _ | refine Below.drew ?_ | refine Below.alloc ?_ (Nat.le_refl _) _ | refine bal ?_ _ | refine bnext ?_ (by assumption))⟩

theorem pow_bd15 (e : Nat) (h : e ≤ 15) : (0 : Int) ≤ 2 ^ e ∧ (2 : Int) ^ e ≤ 32768 := by
  have h1 : 2 ^ e ≤ 2 ^ 15 := Nat.pow_le_pow_right (by omega) h
  have h2 : ((2 ^ e : Nat) : Int) = (2 : Int) ^ e := by simp
  rw [← h2]
  exact ⟨Int.natCast_nonneg _, Int.ofNat_le.2 h1⟩
theorem ediv_of (d u q : Int) (hu : 0 < u) (h1 : q * u ≤ d) (h2 : d < (q + 1) * u) : d / u = q := by
  apply Int.le_antisymm
  · have := Int.ediv_lt_of_lt_mul hu h2
    omega
  · exact (Int.le_ediv_iff_mul_le hu).2 h1
theorem floor_tdiv (d u : Int) (hu : 0 < u) : (d.tdiv u).natAbs ≤ d.natAbs ∧ (d.tdiv u * u).natAbs ≤ d.natAbs ∧ d / u = if d.tdiv u * u > d then d.tdiv u - 1 else d.tdiv u := by
  rcases Int.le_total 0 d with h | h
  · rw [Int.tdiv_eq_ediv_of_nonneg h]
    have h1 := Int.ediv_mul_le d (Int.ne_of_gt hu)
    have h2 := Int.ediv_nonneg h (Int.le_of_lt hu)
    have h3 : 0 ≤ d / u * u := Int.mul_nonneg h2 (Int.le_of_lt hu)
    have h4 : d / u ≤ d := Int.ediv_le_self u h
    refine ⟨by omega, by omega, ?_⟩
    rw [if_neg (by omega)]
  · obtain ⟨p, rfl⟩ : ∃ p, d = -p := ⟨-d, by omega⟩
    rw [Int.neg_tdiv, Int.tdiv_eq_ediv_of_nonneg (by omega)]
    have hp : 0 ≤ p := by omega
    have h1 := Int.ediv_mul_le p (Int.ne_of_gt hu)
    have h2 := Int.ediv_nonneg hp (Int.le_of_lt hu)
    have h3 : 0 ≤ p / u * u := Int.mul_nonneg h2 (Int.le_of_lt hu)
    have h4 : p / u ≤ p := Int.ediv_le_self u hp
    have h5 := Int.lt_ediv_add_one_mul_self p hu
    have h6 : (p / u + 1) * u = p / u * u + u := by rw [Int.add_mul]; omega
    rw [Int.neg_mul]
    refine ⟨by omega, by omega, ?_⟩
    by_cases hgt : -(p / u * u) > -p
    · rw [if_pos hgt]
      apply ediv_of _ _ _ hu
      · rw [show (-(p / u) - 1) = -(p / u + 1) from by omega, Int.neg_mul]; omega
      · rw [show (-(p / u) - 1 + 1) = -(p / u) from by omega, Int.neg_mul]; omega
    · rw [if_neg hgt]
      apply ediv_of _ _ _ hu
      · rw [Int.neg_mul]; omega
      · rw [Int.add_mul, Int.neg_mul]; omega

set_option maxHeartbeats 1000000 in
theorem RTold_any (pr : Int) (sh : Nat) (hsh : sh ≤ 15) (cs ls : List Int) (hcs : ∀ c ∈ cs, -16384 ≤ c ∧ c ≤ 16384) (hm : cs.length ≤ 32) (hs : okS ls) (hml : cs.length ≤ ls.length) (hl : ls.length ≤ 1000000) (Ac A : Option Addr) (cc cap : Nat) (w : World)
    (hrc : Rd w Ac (zv cs)) (hrl : Rd w A (zv ls)) :
    Calls Tryd.prog 24 #[.agg #[.int .i64 pr, .int .i64 sh, .slice Ac cs.length cc], .slice A ls.length cap] w fun e W' => e = .returned (.int .i64 (toldN cs sh ls)) ∧ Below w.heap.size w W' := by
  have Hrc := Lib.hid hrc
  have Hrl := Lib.hid hrl
  have Hcs := Lib.hid hcs
  have Hs := Lib.hid hs
  have HT : Hid (toldN cs sh ls = dotN cs (ls.drop (ls.length - cs.length)) cs.length / 2 ^ sh) := rfl
  obtain ⟨D, hD⟩ : ∃ D, ls.drop (ls.length - cs.length) = D := ⟨_, rfl⟩
  rw [hD] at HT
  have HsD : Hid (okS D) := by show okS _; rw [← hD]; exact okS_drop hs _
  have HDg : Hid (∀ i, i < cs.length → D.getD (D.length - 1 - i) 0 = ls.getD (ls.length - 1 - i) 0) := by
    intro i hi
    have hDl : D.length = cs.length := by rw [← hD, List.length_drop]; omega
    rw [hDl, ← hD, List.getD_eq_getElem?_getD, List.getD_eq_getElem?_getD, List.getElem?_drop]
    congr 2
    omega
  clear hrc hrl hcs hs hD
  go_enter Tryd.func24, Tryd.ntmps24
  go_wp2_with fail
  go_loopw [5, 6] (fun sv iv wr => ∃ k : Nat, k ≤ cs.length ∧ iv = .int .i64 k ∧ sv = .int .i64 (dotN cs D k) ∧ Hid (Below w.heap.size w wr) ∧ Hid (wr.cell? ⟨w.heap.size, 1, none⟩ = some (.int .i64 sh)) ∧ Hid (wr.cell? ⟨w.heap.size, 2, none⟩ = some (.slice Ac cs.length cc))) (fun _ iv _ => cs.length - (intOf iv).toNat)
  case atStart => exact ⟨0, by omega, rfl, rfl, by show Below _ _ _; repeat (first | exact Below.refl _ _ | assumption | refine below_drewN ?_ _ | refine Below.drew ?_ | refine Below.alloc ?_ (Nat.le_refl _) _ | refine bal ?_ _ | refine bnext ?_ (by assumption)), by show _ = _; go_simp, by show _ = _; go_simp⟩
  case round =>
    obtain ⟨k, hk, rfl, rfl, Hb, H1, H2⟩ := hrel
    have hp1 := H1.out
    have hp2 := H2.out
    have hdb := dotN_bd cs D Hcs.out HsD.out k
    by_cases hkk : k < cs.length
    · obtain ⟨b, o, rfl, hc⟩ := (Hrc.out.below Hb.out) k (.int .i64 (cs.getD k 0)) (by rw [zv_get cs k hkk]; simp [List.getD_eq_getElem?_getD, List.getElem?_eq_getElem hkk])
      have hj : ls.length - 1 - k < ls.length := by omega
      obtain ⟨b2, o2, rfl, hc2⟩ := (Hrl.out.below Hb.out) (ls.length - 1 - k) (.int .i64 (ls.getD (ls.length - 1 - k) 0)) (by rw [zv_get ls _ hj]; simp [List.getD_eq_getElem?_getD, List.getElem?_eq_getElem hj])
      have Hsn : Hid (dotN cs D (k + 1) = dotN cs D k + cs.getD k 0 * ls.getD (ls.length - 1 - k) 0) := by
        show _ = _
        rw [dotN, HDg.out k hkk]
      have hcb : -16384 ≤ cs.getD k 0 ∧ cs.getD k 0 ≤ 16384 := by
        rw [List.getD_eq_getElem?_getD]
        cases e : cs[k]? with
        | none => simp
        | some c => exact Hcs.out c (List.mem_of_getElem? e)
      have hmb := mul_bd _ _ hcb (okS_get Hs.out (ls.length - 1 - k))
      generalize cs.getD k 0 = x at *
      generalize ls.getD (ls.length - 1 - k) 0 = y at *
      generalize dotN cs D k = d at *
      have hw1 : IntKind.i64.wrap (x * y) = x * y := by rw [IntKind.wrap_i64]; omega
      have hw2 : IntKind.i64.wrap (d + x * y) = d + x * y := by rw [IntKind.wrap_i64]; omega
      have hki : (k : Int) < cs.length := by omega
      have hj0 : (0 : Int) ≤ (ls.length : Int) - 1 - k := by omega
      have hj1 : (ls.length : Int) - 1 - k < ls.length := by omega
      have hj2 : ((ls.length : Int) - 1 - k).toNat = ls.length - 1 - k := by omega
      have hw3 : IntKind.i64.wrap ((ls.length : Int) - 1) = (ls.length : Int) - 1 := by rw [IntKind.wrap_i64]; omega
      have hw4 : IntKind.i64.wrap ((ls.length : Int) - 1 - k) = (ls.length : Int) - 1 - k := by rw [IntKind.wrap_i64]; omega
      go_wp2_with fail
      go_quiet (fail)
      go_wp2_with fail
      go_roundw
      case rel => exact ⟨k + 1, by omega, by go_num, by rw [Hsn.out], below_drewN Hb.out _, H1.out, H2.out⟩
      case measure => simp [intOf] <;> omega
    · obtain rfl : k = cs.length := by omega
      generalize dotN cs D cs.length = d at *
      have hpp : (0 : Int) < 2 ^ sh := Int.pow_pos (by omega)
      have hpw := pow_bd15 sh hsh
      obtain ⟨t1, t2, t3⟩ := floor_tdiv d (2 ^ sh) hpp
      have hd51 : -2251799813685248 ≤ d ∧ d ≤ 2251799813685248 := by omega
      have hw1 : wrap64 (d.tdiv (2 ^ sh) * 2 ^ sh) = d.tdiv (2 ^ sh) * 2 ^ sh := by unfold wrap64; omega
      have hw2 : wrap64 (d.tdiv (2 ^ sh)) = d.tdiv (2 ^ sh) := by unfold wrap64; omega
      have hw3 : wrap64 (d.tdiv (2 ^ sh) - 1) = d.tdiv (2 ^ sh) - 1 := by unfold wrap64; omega
      have HTt : Hid (toldN cs sh ls = if d.tdiv (2 ^ sh) * 2 ^ sh > d then d.tdiv (2 ^ sh) - 1 else d.tdiv (2 ^ sh)) := HT.out.trans t3
      by_cases hgt : d.tdiv (2 ^ sh) * 2 ^ sh > d
      · go_wp2_with fail
        go_ret
        exact ⟨by rw [HTt.out, if_pos hgt]; rfl, Hb.out⟩
      · go_wp2_with fail
        go_ret
        exact ⟨by rw [HTt.out, if_neg (by omega)]; rfl, Hb.out⟩
end Go.Proofs.YtghnjgemjiekgaaDoor
