/-
  jetsamref06.Best: the walk.
-/
import Derived.Test.YtghnjgemjiekgaaDoorDiff06
namespace Go.Proofs.YtghnjgemjiekgaaDoor
open Go.RowKit

set_option maxRecDepth 100000 in
set_option maxHeartbeats 2000000 in
theorem RBest_any (ls : List Int) (A : Option Addr) (c : Nat) (w : World) (hrl : Rd w A (zv ls)) (hl : ls.length ≤ 1000) (hn : A = none → c = 0) :
    Calls Tryd.prog 17 #[.slice A ls.length c] w fun e w' => e = .returned (.int .i64 (bestV ls : Nat)) ∧ Below w.heap.size w w' := by
  have Hrl := Lib.hid hrl
  have HB : Hid (bestV ls = if ls.any outS = true then 0 else (bst (fun k => absS (resN (fixC k) 0 ls)) (min 5 ls.length)).1) := rfl
  have HDf : Hid (ls.any outS = false → ∀ k : Nat, k < 5 → ∀ W : World, Below w.heap.size w W → Calls Tryd.prog 18 #[.int .i64 k, .slice A ls.length c] W fun e w' => ∃ A' c', e = .returned (.slice A' (resN (fixC k) 0 ls).length c') ∧ Rd w' A' (zv (resN (fixC k) 0 ls)) ∧ Below W.heap.size W w') := by
    intro han k hk W hW
    rw [← dif_law k hk]
    exact Differ_any k hk ls A c W (hrl.below hW) (okS_of ls han) hl hn
  have HD : Hid (ls.any outS = false → ∀ k : Nat, k < 5 → ∀ x ∈ resN (fixC k) 0 ls, -((2256094780981248 : Nat) : Int) ≤ x ∧ x ≤ (2256094780981248 : Nat)) := by
    intro han k hk
    obtain ⟨hok, hlen⟩ := fixC_ok k hk
    obtain ⟨h1, -, h3⟩ := okL_spec hok
    exact resN_bd _ _ _ h3 h1 (okS_of _ han)
  clear hrl hn
  obtain ⟨bv, hbv⟩ : ∃ z, bestV ls = z := ⟨_, rfl⟩
  rw [hbv] at HB ⊢
  clear hbv
  go_enter Tryd.func17, Tryd.ntmps17
  go_wp2_with fail
  go_loopw [3] (fun iv wr => ∃ p : Nat, p ≤ ls.length ∧ iv = .int .i64 (p : Int) ∧ Hid ((ls.take p).any outS = false) ∧ Hid (Below w.heap.size w wr)) (fun iv _ => ls.length - (intOf iv).toNat)
  case atStart => exact ⟨0, by omega, rfl, by simp [Hid], Below.refl _ _⟩
  case round =>
    obtain ⟨p, hj, rfl, Hst, Hw⟩ := hrel
    by_cases hjj : p < ls.length
    · obtain ⟨b, o, rfl, hc⟩ := (Hrl.out.below Hw.out) p (.int .i64 ls[p]) (by simp [zv, hjj])
      have Hta : Hid ((ls.take (p + 1)).any outS = ((ls.take p).any outS || outS ls[p])) := by show _ = _; rw [take_any ls p hjj]
      have HMy := Lib.hid (rmay_still ls[p] wr)
      cases hout : outS ls[p] with
      | true =>
        have HB1 : Hid (bv = 0) := by
          show _ = _
          have h : ls.any outS = true := any_of_take (i := p + 1) (by rw [Hta.out, hout, Bool.or_true])
          rw [HB.out, if_pos h]
        rw [hout] at HMy
        clear hout Hta
        generalize ls[p] = x at *
        go_wp2_with fail
        refine HMy.out.mono ?_
        rintro e w3 ⟨rfl, rfl⟩
        go_wp2_with fail
        go_ret
        exact ⟨by rw [HB1.out]; rfl, Hw.out⟩
      | false =>
        have Hta2 : Hid ((ls.take (p + 1)).any outS = false) := by show _ = _; rw [Hta.out, Hst.out, hout]; rfl
        rw [hout] at HMy
        clear hout Hta
        generalize ls[p] = x at *
        go_wp2_with fail
        refine HMy.out.mono ?_
        rintro e w3 ⟨rfl, rfl⟩
        go_wp2_with fail
        go_roundw
        case rel => exact ⟨p + 1, by omega, by go_num, Hta2.out, Hw.out⟩
        case measure => simp [intOf] <;> omega
    · obtain rfl : p = ls.length := by omega
      have han : ls.any outS = false := by have h := Hst.out; rwa [List.take_length] at h
      have HB2 : Hid (bv = (bst (fun k => absS (resN (fixC k) 0 ls)) (min 5 ls.length)).1) := by show _ = _; rw [HB.out, if_neg (by rw [han]; decide)]
      have HDf2 := Lib.hid (HDf.out han)
      have HD2 := Lib.hid (HD.out han)
      clear HDf HD HB han Hst
      go_wp2_with fail
      go_loopw [4, 5, 6] (fun bv_ lv iv wz => ∃ k : Nat, k ≤ 5 ∧ k ≤ ls.length ∧ iv = .int .i64 k ∧ bv_ = .int .i64 ((bst (fun k => absS (resN (fixC k) 0 ls)) k).1 : Nat) ∧ lv = .int .i64 (bst (fun k => absS (resN (fixC k) 0 ls)) k).2 ∧ Hid (Below w.heap.size w wz)) (fun _ _ iv _ => 5 - (intOf iv).toNat)
      case atStart => exact ⟨0, by omega, by omega, rfl, rfl, rfl, Hw.out⟩
      case round =>
        clear Hw
        obtain ⟨k, hk, hkl, rfl, rfl, rfl, Hb⟩ := hrel
        by_cases hkk : k < 5
        · by_cases hkl2 : k < ls.length
          · have Hst : Hid (bst (fun k => absS (resN (fixC k) 0 ls)) (k + 1) = if (bst (fun k => absS (resN (fixC k) 0 ls)) k).2 < 0 ∨ absS (resN (fixC k) 0 ls) < (bst (fun k => absS (resN (fixC k) 0 ls)) k).2 then (k, absS (resN (fixC k) 0 ls)) else bst (fun k => absS (resN (fixC k) 0 ls)) k) := rfl
            generalize hb0 : (bst (fun k => absS (resN (fixC k) 0 ls)) k).1 = b0 at *
            have Hb0 := Lib.hid hb0
            clear hb0
            have HX := Lib.hid (HDf2.out k hkk wr Hb.out)
            have Hdb := Lib.hid (HD2.out k hkk)
            have Hdl : Hid ((resN (fixC k) 0 ls).length ≤ 1000) := by show _ ≤ _; rw [resN_length]; omega
            generalize resN (fixC k) 0 ls = d at *
            generalize hlv : (bst (fun k => absS (resN (fixC k) 0 ls)) k).2 = lv at *
            have HLV := Lib.hid hlv
            have Hdl1 := Hdl.out
            clear hlv
            go_wp2_with fail
            refine HX.out.mono ?_
            rintro e w5 ⟨A9, c9, rfl, hr9, hb6⟩
            have Hr9 := Lib.hid hr9
            have hb7 := Lib.hid (bnext Hb.out hb6)
            clear hr9 HX hb6
            go_wp2_with fail
            go_loopw [8, 9] (fun sv iv wq => ∃ i : Nat, i ≤ d.length ∧ iv = .int .i64 i ∧ sv = .int .i64 (absS (d.take i)) ∧ Hid (Below w5.heap.size w5 wq)) (fun _ iv _ => d.length - (intOf iv).toNat)
            case atStart => exact ⟨0, by omega, rfl, rfl, Below.refl _ _⟩
            case round =>
              obtain ⟨i, hi, rfl, rfl, Hbq⟩ := hrel
              by_cases hii : i < d.length
              · obtain ⟨b9, o9, rfl, hc9⟩ := (Hr9.out.below Hbq.out) i (.int .i64 d[i]) (by simp [zv, hii])
                have Hsn : Hid (absS (d.take (i + 1)) = absS (d.take i) + absI d[i]) := by
                  show _ = _
                  rw [List.take_succ_eq_append_getElem hii, absS_snoc]
                have hsb := absS_bd (d.take i) 2256094780981248 fun x hx => Hdb.out x (List.mem_of_mem_take hx)
                rw [List.length_take, Nat.min_eq_left hi] at hsb
                have hxb := Hdb.out _ (List.getElem_mem hii)
                have Hab : Hid (∀ x : Int, absI x = if x < -x then -x else x) := fun _ => rfl
                have Hab := Lib.hid (Hab.out d[i])
                generalize absS (d.take i) = s0 at *
                generalize d[i] = x at *
                go_upto_region 16 with fail
                go_quiet (fail)
                go_wp2_with fail
                go_roundw
                case rel => exact ⟨i + 1, by omega, by go_num, by rw [Hsn.out, Hab.out], below_drewN Hbq.out _⟩
                case measure => simp [intOf] <;> omega
              · obtain rfl : i = d.length := by omega
                have Htk : Hid (d.take d.length = d) := by show _ = _; rw [List.take_length]
                rw [Htk.out]
                clear Htk
                have hbz := bnext hb7.out Hbq.out
                generalize absS d = s0 at *
                by_cases h1 : lv < 0
                · have Hst2 : Hid (bst (fun k => absS (resN (fixC k) 0 ls)) (k + 1) = (k, s0)) := by show _ = _; rw [Hst.out, if_pos (.inl h1)]
                  go_wp2_with fail
                  go_roundw
                  case rel => exact ⟨k + 1, by omega, by omega, by go_num, by rw [Hst2.out], by rw [Hst2.out], hbz⟩
                  case measure => simp [intOf] <;> omega
                · by_cases h2 : s0 < lv
                  · have Hst2 : Hid (bst (fun k => absS (resN (fixC k) 0 ls)) (k + 1) = (k, s0)) := by show _ = _; rw [Hst.out, if_pos (.inr h2)]
                    go_wp2_with fail
                    go_roundw
                    case rel => exact ⟨k + 1, by omega, by omega, by go_num, by rw [Hst2.out], by rw [Hst2.out], hbz⟩
                    case measure => simp [intOf] <;> omega
                  · have Hst2 : Hid (bst (fun k => absS (resN (fixC k) 0 ls)) (k + 1) = bst (fun k => absS (resN (fixC k) 0 ls)) k) := by show _ = _; rw [Hst.out, if_neg (fun h => by rcases h with h | h; exact h1 h; exact h2 h)]
                    go_wp2_with fail
                    go_roundw
                    case rel => exact ⟨k + 1, by omega, by omega, by go_num, by rw [Hst2.out, Hb0.out], by rw [Hst2.out, HLV.out], hbz⟩
                    case measure => simp [intOf] <;> omega
          · obtain rfl : k = ls.length := by omega
            have HB3 : Hid (bv = (bst (fun k => absS (resN (fixC k) 0 ls)) ls.length).1) := by show _ = _; rw [HB2.out, Nat.min_eq_right (by omega)]
            generalize (bst (fun k => absS (resN (fixC k) 0 ls)) ls.length).1 = q at *
            generalize (bst (fun k => absS (resN (fixC k) 0 ls)) ls.length).2 = q2 at *
            go_wp2_with fail
            go_ret
            exact ⟨by rw [HB3.out]; rfl, Hb.out⟩
        · obtain rfl : k = 5 := by omega
          have HB3 : Hid (bv = (bst (fun k => absS (resN (fixC k) 0 ls)) 5).1) := by show _ = _; rw [HB2.out, Nat.min_eq_left (by omega)]
          generalize (bst (fun k => absS (resN (fixC k) 0 ls)) 5).1 = q at *
          generalize (bst (fun k => absS (resN (fixC k) 0 ls)) 5).2 = q2 at *
          go_wp2_with fail
          go_ret
          exact ⟨by rw [HB3.out]; rfl, Hb.out⟩
end Go.Proofs.YtghnjgemjiekgaaDoor
