/-
  jetsamref18.All: its walk.
-/
import Derived.Test.YticfmhmkgcdhgaaTellL18
namespace Go.Proofs.Yticfmhmkgcdhgaa
open Go.RowKit
open Crc (burstB dmg bl bk bits8 bitsOf bits8_le bitsOf_le)

theorem info_tri : (Try.prog.info? 35).map (fun i => (i.zero, i.size, i.bytes)) = some (some (.agg #[.int .i64 0, .int .i64 0, .int .i64 0]), 3, 24) := by kernel_rfl
theorem tri_one (x y z : Int) : ∀ u ∈ (#[Value.int .i64 x, .int .i64 y, .int .i64 z] : Array Value).toList, u.oneCell' = true := by
  intro u hu
  simp at hu
  rcases hu with rfl | rfl | rfl <;> rfl

set_option maxRecDepth 100000 in
set_option maxHeartbeats 4000000 in
theorem RAll_any (bs : List UInt8) (A : Option Addr) (c : Nat) (most : Int) (hm : most ≤ 5) (hlen : bs.length ≤ 8) (w : World) (hr : Rd w A (nv (bitsOf bs))) (hn : A = none → c = 0) :
    Calls Try.prog 12 #[.slice A (8 * bs.length) c, .int .i64 most] w fun e w' =>
      ∃ v, e = .returned v ∧ Hid (w'.ownsRow w.heap.size 35 3 v (allB bs most).length ((allB bs most).flatMap cellX)) ∧ Below w.heap.size w w' := by
  have HS := Sum_any (bitsOf bs) (bitsOf_le _) A c w hr (by rw [bitsOf_length]; omega)
  rw [bitsOf_length, lft_eq] at HS
  have HS := Lib.hid HS
  have HTn := Lib.hid (fun W (hW : Below w.heap.size w W) (a n p : Nat) (h1 : 1 ≤ n) (h2 : n ≤ 16) (h3 : p < 65536) (h4 : a + n ≤ 8 * bs.length) => by
    have h := Turn_any (bitsOf bs) (bitsOf_le _) A c a n p W (hr.below hW) hn h1 h2 h3 (by rw [bitsOf_length]; exact h4) (by rw [bitsOf_length]; omega)
    rw [rT_burst _ _ _ _ h2 h4, bitsOf_length] at h
    exact h)
  have HSm : Hid (∀ (a n p : Nat) W A c, Rd W A (nv (bitsOf (burstB bs a n p))) → Calls Try.prog 20 #[.slice A (8 * bs.length) c] W fun e w' => e = .returned (.int .i64 (crc16 0 (burstB bs a n p))) ∧ Below W.heap.size W w') := by
    intro a n p W A c hr
    have h := Sum_any (bitsOf (burstB bs a n p)) (bitsOf_le _) A c W hr (by rw [bitsOf_length, Crc.burstB_length]; omega)
    rw [lft_eq, bitsOf_length, Crc.burstB_length] at h
    exact h
  have Hki := Lib.hid (kill_iff bs)
  clear hr hn
  by_cases hC : crc16 0 bs = 0
  · have h0 := Lib.hid (allB_right bs most hC)
    rw [hC] at HS
    go_enter Try.func12, Try.ntmps12
    go_wp2_with fail
    refine HS.out.mono ?_
    rintro e w1 ⟨rfl, hb1⟩
    go_wp2_with fail
    go_ret
    exact ⟨_, rfl, by rw [h0.out]; exact World.ownsRow_nil _ _ _ 3, hb1⟩
  · have hB0 := Lib.hid (allB_hB bs most (by omega) hC)
    have hC' : ((crc16 0 bs : Nat) : Int) ≠ 0 := by omega
    have e0 : (((crc16 0 bs : Nat) : Int) == 0) = false := by rw [beq_eq_false_iff_ne]; exact hC'
    clear hC hC'
    rw [hB0.out]
    clear hB0
    generalize crc16 0 bs = C at *
    go_enter Try.func12, Try.ntmps12
    go_wp2_with fail
    refine HS.out.mono ?_
    rintro e w1 ⟨rfl, hb1⟩
    have Hb1 := Lib.hid hb1
    have HO := Lib.hid (World.ownsRow_nil w1 w.heap.size 35 3)
    clear hb1 HS
    go_wp2_with fail
    go_loopw [5, 6, 7, 8] (fun v e x7 x8 wr => ∃ k : Nat, k ≤ 8 * bs.length ∧ e = .int .i64 ((8 * bs.length - k : Nat) : Int) ∧ Hid (wr.ownsRow w.heap.size 35 3 v (hB (8 * bs.length) C most k).length ((hB (8 * bs.length) C most k).flatMap cellX)) ∧ Hid (Below w.heap.size w wr)) (fun _ e _ _ _ => (intOf e).toNat)
    case atStart => exact ⟨0, by omega, by first | rfl | (simp; done) | (congr 1; omega), HO.out, Hb1.out⟩
    case round =>
      obtain ⟨k, hk, rfl, Hown, Hb⟩ := hrel
      clear Hb1 HO
      by_cases hkk : k < 8 * bs.length
      · obtain ⟨E, hE⟩ : ∃ E, 8 * bs.length - k = E := ⟨_, rfl⟩
        have hE1 : 0 < E := by omega
        have hE2 : (E : Int) ≤ 64 := by omega
        have Hend := Lib.hid (fun wd => hW_end (8 * bs.length) C most k wd hkk)
        have Hst0 := Lib.hid (hW_start (8 * bs.length) C most k)
        have Hlen : Hid (∀ wd p, (hW (8 * bs.length) C most k wd p).length ≤ 65) := by
          intro wd p
          have h1 := hits_length (8 * bs.length) C most k
          unfold hW hB
          rw [List.length_append, List.length_map]
          split <;> simp <;> omega
        have HE := Lib.hid hE
        rw [hE] at Hend ⊢
        have HEk : Hid (8 * bs.length - (k + 1) = E - 1) := by show _ = _; omega
        clear hE
        have Hown0 : Hid (wr.ownsRow w.heap.size 35 3 u5 (hW (8 * bs.length) C most k 1 0).length ((hW (8 * bs.length) C most k 1 0).flatMap cellX)) := by
          show World.ownsRow _ _ _ _ _ _ _
          rw [Hst0.out]; exact Hown.out
        clear Hown
        go_wp2_with fail
        obtain ⟨wo, rfl⟩ : ∃ wo : World, wo = wr := ⟨_, rfl⟩
        go_loopw [5, 7, 8] (fun v x x8 wr => ∃ wd : Nat, 1 ≤ wd ∧ wd ≤ 6 ∧ x = .int .i64 wd ∧ Hid (wr.ownsRow w.heap.size 35 3 v (hW (8 * bs.length) C most k wd 0).length ((hW (8 * bs.length) C most k wd 0).flatMap cellX)) ∧ Hid (Below w.heap.size w wr)) (fun _ x _ _ => 6 - (intOf x).toNat)
        case atStart => exact ⟨1, by omega, by omega, rfl, Hown0, Hb.out⟩
        case round =>
          obtain ⟨wd, hw1, hw6, rfl, Hown, Hb2⟩ := hrel
          clear Hown0
          by_cases hgo : (wd : Int) ≤ most ∧ (wd : Int) ≤ E
          · obtain ⟨hg1, hg2⟩ := hgo
            have hwE : (E : Int) - (wd : Int) = ((E - wd : Nat) : Int) := by omega
            obtain ⟨lo, hlo⟩ : ∃ lo : Nat, 2 ^ (wd - 1) = lo := ⟨_, rfl⟩
            obtain ⟨hi, hhi⟩ : ∃ hi : Nat, 2 ^ wd = hi := ⟨_, rfl⟩
            have Hst := Lib.hid (hW_width (8 * bs.length) C most k wd hw1)
            have Hnx := Lib.hid (hW_next (8 * bs.length) C most k wd)
            have Hyes := Lib.hid (fun p (h1 : p % 2 = 1) (h2 : lo ≤ p) (h3 : p < hi) (h4 : p < 65536) (h5 : sumAt C k = p) => hW_yes (8 * bs.length) C most k wd p h1 (by rw [hlo]; exact h2) (by rw [hhi]; exact h3) hw1 (by omega) (by have := HE.out; omega) h4 h5)
            have Hno := Lib.hid (hW_no (8 * bs.length) C most k wd)
            have Hzero : Hid (∀ p, p % 2 = 1 → lo ≤ p → p < hi → p < 65536 → (crc16 0 (burstB bs (E - wd) wd p) = 0 ↔ sumAt C k = p)) := by
              intro p h1 h2 h3 h4
              have hE' := HE.out
              have h := Hki.out ⟨E - wd, wd, p⟩ ⟨Crc.bl_of p wd hw1 (by rw [hlo]; exact h2) (by rw [hhi]; exact h3), h4, h1, by show E - wd + wd ≤ _; omega⟩
              rw [show 8 * bs.length - ((E - wd) + wd) = k from by omega] at h
              exact h
            rw [hlo] at Hst
            rw [hhi] at Hnx
            have hwd5 : wd = 1 ∨ wd = 2 ∨ wd = 3 ∨ wd = 4 ∨ wd = 5 := by omega
            have hlh : lo < hi ∧ hi ≤ 32 := by
              rw [← hlo, ← hhi]
              rcases hwd5 with rfl | rfl | rfl | rfl | rfl <;> decide
            have hloI : ((1 : Int) * 2 ^ (wd - 1)) = (lo : Int) := by rw [← hlo]; simp
            have hloJ : (2 : Int) ^ (wd - 1) = (lo : Int) := by rw [← hlo]; simp
            have hhiJ : (2 : Int) ^ wd = (hi : Int) := by rw [← hhi]; simp
            have hhi' : ((1 : Int) * 2 ^ wd) = (hi : Int) := by rw [← hhi]; simp
            have hlo2 : ((wd : Int) - 1).toNat = wd - 1 := by omega
            have hwn0 : (0 : Int) ≤ (wd : Int) - 1 := by omega
            have hlow : (lo : Int) < 32 := by omega
            have hhiw : (hi : Int) ≤ 32 := by omega
            have hlo1 : (1 : Int) ≤ (lo : Int) := by have := Nat.pos_of_ne_zero (n := lo) (by rw [← hlo]; exact Nat.ne_of_gt (Nat.pow_pos (by omega))); omega
            have Hlh := Lib.hid hlh
            have Hhlo := Lib.hid hlo
            have Hhhi := Lib.hid hhi
            clear hlh hhi hwd5
            clear hlo
            go_wp2_with fail
            go_loopw [5, 8] (fun v p wr => ∃ q : Nat, lo ≤ q ∧ q ≤ hi ∧ p = .int .i64 q ∧ Hid (wr.ownsRow w.heap.size 35 3 v (hW (8 * bs.length) C most k wd q).length ((hW (8 * bs.length) C most k wd q).flatMap cellX)) ∧ Hid (Below w.heap.size w wr)) (fun _ p _ => hi - (intOf p).toNat)
            case atStart => exact ⟨lo, Nat.le_refl _, by have := Hlh.out; omega, rfl, by rw [Hst.out]; exact Hown, Hb2.out⟩
            case round =>
              obtain ⟨q, hq1, hq2, rfl, Hown3, Hb3⟩ := hrel
              by_cases hqh : q < hi
              · have hl3 := Hlen.out wd q
                have hqh2 := Hlh.out
                have hqI : (q : Int) < (hi : Int) := by omega
                have hq32 : (q : Int) < 32 := by omega
                by_cases hodd : q % 2 = 1
                · have ho : (q : Int) % 2 = 1 := by omega
                  have HT := Lib.hid (HTn.out wr Hb3.out (E - wd) wd q hw1 (by omega) (by omega) (by have := HE.out; omega))
                  have HZ := Lib.hid (Hzero.out q hodd hq1 hqh (by omega))
                  have HY := Lib.hid (Hyes.out q hodd hq1 hqh (by omega))
                  have HN := Lib.hid (Hno.out q)
                  have HS2 := Lib.hid (HSm.out (E - wd) wd q)
                  generalize hW (8 * bs.length) C most k wd q = L at *
                  obtain ⟨Z, hZ⟩ : ∃ Z, crc16 0 (burstB bs (E - wd) wd q) = Z := ⟨_, rfl⟩
                  rw [hZ] at HS2 HZ
                  clear hZ Hzero Hyes Hno HTn HSm
                  have HED : Hid (8 * bs.length - k - wd = E - wd) := by show _ = _; rw [HE.out]
                  rw [HED.out] at HY
                  go_wp2_with fail
                  refine HT.out.mono ?_
                  rintro e w4 ⟨v4, rfl, hr4, hb4⟩
                  obtain ⟨A4, c4, rfl, -, -, hrd4, -⟩ := own_rd4 hr4
                  have HS4 := Lib.hid (HS2.out w4 A4 c4 hrd4)
                  have Hown4 := Lib.hid (ownsRow_below Hown3.out hb4)
                  have Hb4 := Lib.hid (bnext Hb3.out hb4)
                  clear HS2 HT hr4 hrd4 hb4 Hown3 Hb3
                  by_cases hz : Z = 0
                  · have hY := Lib.hid (HY.out (HZ.out.1 hz))
                    subst hz
                    clear HZ HN HY
                    go_wp2_with fail
                    refine HS4.out.mono ?_
                    rintro e w5 ⟨rfl, hb5⟩
                    have Hown5 := Lib.hid (ownsRow_below Hown4.out hb5)
                    have Hb5 := Lib.hid (bnext Hb4.out hb5)
                    clear HS4 hb5 Hown4 Hb4
                    have hsz5 := Hb5.out.size
                    go_wp2_with (at_builtin; refine app1 (w0 := w) (size := 3) (bytes := 24) rfl _ _ 30 rfl Try.underlying30 info_tri rfl (by decide) rfl Hown5.out (Nat.le_refl _) hsz5 Hb5.out rfl rfl (tri_one _ _ _) (by omega) (by unfold maxLen; omega) ?_; intro v1 w9 own1 hb9 hs9; have Hown9 := Lib.hid own1; have Hb9 := Lib.hid hb9; clear own1 hb9)
                    go_roundw
                    case rel =>
                      have hf : Hid (w9.ownsRow w.heap.size 35 3 v1 (hW (8 * bs.length) C most k wd (q + 1)).length ((hW (8 * bs.length) C most k wd (q + 1)).flatMap cellX)) := by
                        show World.ownsRow _ _ _ _ _ _ _
                        rw [hY.out, List.length_append, List.flatMap_append]
                        have h := Hown9.out
                        simpa only [cellX, List.flatMap_cons, List.flatMap_nil, List.append_nil, List.length_cons, List.length_nil, Nat.zero_add] using h
                      trace_state
                      exact ⟨q + 1, by omega, by omega, by go_num, hf, Hb9.out⟩
                    case measure => simp [intOf] <;> omega
                  · have hN := Lib.hid (HN.out (.inr (fun h => hz (HZ.out.2 h))))
                    have hz2 : ((Z : Int) == 0) = false := by rw [beq_eq_false_iff_ne]; omega
                    clear HZ HN HY
                    go_wp2_with fail
                    refine HS4.out.mono ?_
                    rintro e w5 ⟨rfl, hb5⟩
                    have Hown5 := Lib.hid (ownsRow_below Hown4.out hb5)
                    have Hb5 := Lib.hid (bnext Hb4.out hb5)
                    go_wp2_with fail
                    go_roundw
                    case rel =>
                      rw [← hN.out] at Hown5
                      exact ⟨q + 1, by omega, by omega, by go_num, Hown5, Hb5.out⟩
                    case measure => simp [intOf] <;> omega
                · have ho : ¬ ((q : Int) % 2 = 1) := by omega
                  have HN := Lib.hid (Hno.out q (.inl (by omega)))
                  have ho2 : (((q : Int) % 2) == 1) = false := by rw [beq_eq_false_iff_ne]; exact ho
                  go_wp2_with fail
                  go_roundw
                  case rel => exact ⟨q + 1, by omega, by omega, by go_num, by rw [HN.out]; exact Hown3, Hb3.out⟩
                  case measure => simp [intOf] <;> omega
              · obtain rfl : q = hi := by omega
                rw [Hnx.out] at Hown3
                have hhh : ¬ ((q : Int) < (q : Int)) := by omega
                go_wp2_with fail
                go_roundw
                case rel => exact ⟨wd + 1, by omega, by omega, by go_num, Hown3, Hb3.out⟩
                case measure => simp [intOf] <;> omega
          · have hE' := HE.out
            rw [Hend.out wd (by omega)] at Hown
            by_cases hg1 : (wd : Int) ≤ most
            · have hg2 : ¬ (wd : Int) ≤ E := fun h => hgo ⟨hg1, h⟩
              go_wp2_with fail
              go_roundw
              case rel => exact ⟨k + 1, by omega, by rw [HEk.out]; first | (congr 1; omega) | (simp; omega), Hown, Hb2.out⟩
              case measure => simp [intOf] <;> omega
            · go_wp2_with fail
              go_roundw
              case rel => exact ⟨k + 1, by omega, by rw [HEk.out]; first | (congr 1; omega) | (simp; omega), Hown, Hb2.out⟩
              case measure => simp [intOf] <;> omega
      · obtain rfl : k = 8 * bs.length := by omega
        have hz : ((8 * bs.length - 8 * bs.length : Nat) : Int) = 0 := by omega
        rw [hz]
        clear hz
        go_wp2_with fail
        go_ret
        exact ⟨_, rfl, Hown, Hb.out⟩
end Go.Proofs.Yticfmhmkgcdhgaa
