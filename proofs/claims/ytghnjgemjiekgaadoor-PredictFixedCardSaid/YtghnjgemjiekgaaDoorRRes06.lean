/-
  jetsamref06.Residual: the walk.
-/
import Derived.Test.YtghnjgemjiekgaaDoorRef06
namespace Go.Proofs.YtghnjgemjiekgaaDoor
open Go.RowKit

theorem take_any (ls : List Int) (i : Nat) (h : i < ls.length) : (ls.take (i + 1)).any outS = ((ls.take i).any outS || outS ls[i]) := by
  rw [List.take_succ_eq_append_getElem h, List.any_append]; simp
theorem any_of_take {ls : List Int} {i : Nat} (h : (ls.take i).any outS = true) : ls.any outS = true := by
  rw [List.any_eq_true] at h ⊢
  obtain ⟨x, hx, hp⟩ := h
  exact ⟨x, List.mem_of_mem_take hx, hp⟩

set_option maxRecDepth 100000 in
set_option maxHeartbeats 2000000 in
theorem RResidual_any (pr sh : Int) (cs ls : List Int) (Ac A : Option Addr) (cc c : Nat) (w : World) (hrc : Rd w Ac (zv cs)) (hrl : Rd w A (zv ls)) (hcl : cs.length ≤ 1000000) (hl2 : ls.length ≤ 1000000) (hcap : ls.length ≤ c) :
    Calls Tryd.prog 10 #[.agg #[.int .i64 pr, .int .i64 sh, .slice Ac cs.length cc], .slice A ls.length c] w fun e w' => ∃ v, e = .returned (.tuple #[v, .int .i64 (resE pr sh cs ls)]) ∧ Hid (w'.ownsRow w.heap.size 3 1 v (resL pr sh cs ls).length (zv (resL pr sh cs ls))) ∧ Below w.heap.size w w' := by
  have HC := Lib.hid (fun W (hW : Below w.heap.size w W) => RCheck_any pr sh cs Ac cc W (hrc.below hW) (by omega))
  have HE : Hid (resE pr sh cs ls = if okL pr sh cs = false then 10 else if ls.length < cs.length then 1 else if ls.any outS = true then 10 else 0) := rfl
  have HL : Hid (resL pr sh cs ls = if resE pr sh cs ls = 0 then resN cs sh.toNat ls else []) := rfl
  have Hrc := Lib.hid hrc
  have Hrl := Lib.hid hrl
  clear hrc hrl
  generalize resE pr sh cs ls = E at *
  generalize resL pr sh cs ls = L at *
  cases hok : okL pr sh cs with
  | false =>
    have HE1 : Hid (E = 10) := by show _ = _; rw [HE.out, hok]; rfl
    have HL1 : Hid (L = []) := by show _ = _; rw [HL.out, HE1.out]; rfl
    rw [hok] at HC
    clear hok HE HL
    generalize cs.length = m at *
    go_enter Tryd.func10, Tryd.ntmps10
    go_wp2_with fail
    refine (HC.out _ (by repeat (first | exact Below.refl _ _ | assumption | refine below_drewN ?_ _ | refine Below.drew ?_ | refine Below.alloc ?_ (Nat.le_refl _) _ | refine bal ?_ _ | refine bnext ?_ (by assumption)))).mono ?_
    rintro e w1 ⟨rfl, hb1⟩
    have hb2 : Below w.heap.size w w1 := by repeat (first | exact Below.refl _ _ | assumption | refine below_drewN ?_ _ | refine Below.drew ?_ | refine Below.alloc ?_ (Nat.le_refl _) _ | refine bal ?_ _ | refine bnext ?_ (by assumption))
    simp only [chkP]
    go_wp2_with fail
    go_ret2
    exact ⟨_, by rw [HE1.out]; rfl, by rw [HL1.out]; exact World.ownsRow_nil _ _ _ 1, hb2⟩
  | true =>
    rw [hok] at HC
    obtain ⟨hm32, hsh, hcs⟩ := okL_spec hok
    by_cases hlt : ls.length < cs.length
    · have HE1 : Hid (E = 1) := by show _ = _; rw [HE.out, hok, if_neg (by decide), if_pos hlt]
      have HL1 : Hid (L = []) := by show _ = _; rw [HL.out, HE1.out]; rfl
      clear hok HE HL hcs
      generalize cs.length = m at *
      generalize ls.length = n at *
      go_enter Tryd.func10, Tryd.ntmps10
      go_wp2_with fail
      refine (HC.out _ (by repeat (first | exact Below.refl _ _ | assumption | refine below_drewN ?_ _ | refine Below.drew ?_ | refine Below.alloc ?_ (Nat.le_refl _) _ | refine bal ?_ _ | refine bnext ?_ (by assumption)))).mono ?_
      rintro e w1 ⟨rfl, hb1⟩
      have hq2 : w1.cell? ⟨w.heap.size, 2, none⟩ = some (.slice Ac m cc) := (hb1.cell (p := ⟨w.heap.size, 2, none⟩) (by simp)).trans (by go_simp)
      have hb2 : Below w.heap.size w w1 := by repeat (first | exact Below.refl _ _ | assumption | refine below_drewN ?_ _ | refine Below.drew ?_ | refine Below.alloc ?_ (Nat.le_refl _) _ | refine bal ?_ _ | refine bnext ?_ (by assumption))
      simp only [chkP]
      go_wp2_with fail
      go_ret2
      exact ⟨_, by rw [HE1.out]; rfl, by rw [HL1.out]; exact World.ownsRow_nil _ _ _ 1, hb2⟩
    · have HE2 : Hid (E = if ls.any outS = true then 10 else 0) := by show _ = _; rw [HE.out, hok, if_neg (by decide), if_neg hlt]
      obtain ⟨sn, rfl⟩ : ∃ sn : Nat, sh = sn := ⟨sh.toNat, by omega⟩
      rw [Int.toNat_natCast] at HL
      have hsn : sn ≤ 15 := by omega
      have Hcs := Lib.hid hcs
      have Hrl2 : Hid ((resN cs sn ls).length = ls.length - cs.length) := resN_length _ _ _
      have Hok := Lib.hid hok
      clear hok HE hcs hsh
      go_enter Tryd.func10, Tryd.ntmps10
      go_wp2_with fail
      refine (HC.out _ (by repeat (first | exact Below.refl _ _ | assumption | refine below_drewN ?_ _ | refine Below.drew ?_ | refine Below.alloc ?_ (Nat.le_refl _) _ | refine bal ?_ _ | refine bnext ?_ (by assumption)))).mono ?_
      rintro e w2 ⟨rfl, hb1⟩
      have hq0 : w2.cell? ⟨w.heap.size, 0, none⟩ = some (.int .i64 pr) := (hb1.cell (p := ⟨w.heap.size, 0, none⟩) (by simp)).trans (by go_simp)
      have hq1 : w2.cell? ⟨w.heap.size, 1, none⟩ = some (.int .i64 sn) := (hb1.cell (p := ⟨w.heap.size, 1, none⟩) (by simp)).trans (by go_simp)
      have hq2 : w2.cell? ⟨w.heap.size, 2, none⟩ = some (.slice Ac cs.length cc) := (hb1.cell (p := ⟨w.heap.size, 2, none⟩) (by simp)).trans (by go_simp)
      have Hb2 : Hid (Below w.heap.size w w2) := by show Below _ _ _; repeat (first | exact Below.refl _ _ | assumption | refine below_drewN ?_ _ | refine Below.drew ?_ | refine Below.alloc ?_ (Nat.le_refl _) _ | refine bal ?_ _ | refine bnext ?_ (by assumption))
      clear hb1 HC
      simp only [chkP]
      have Hq0 := Lib.hid hq0
      have Hq1 := Lib.hid hq1
      have Hq2 := Lib.hid hq2
      go_wp2_with fail
      clear hq0 hq1 hq2
      obtain ⟨H, hH⟩ : ∃ H, w.heap.size = H := ⟨_, rfl⟩
      rw [hH] at Hq0 Hq1 Hq2 ⊢
      have HH := Lib.hid hH
      clear hH
      obtain ⟨m, hm⟩ : ∃ m, cs.length = m := ⟨_, rfl⟩
      have Hm := Lib.hid hm
      rw [hm] at hlt hm32 Hrl2 Hq2 ⊢
      clear hm
      go_loopw [7, 8] (fun v iv wr => ∃ p : Nat, p ≤ ls.length ∧ iv = .int .i64 (p : Int) ∧ Hid ((ls.take p).any outS = false) ∧ Hid (wr.ownsRow w2.heap.size 3 1 v (p - m) (zv ((resN cs sn ls).take (p - m)))) ∧ Hid (Below w2.heap.size w2 wr)) (fun _ iv _ => ls.length - (intOf iv).toNat)
      case atStart => exact ⟨0, by omega, rfl, by simp [Hid], by rw [Nat.zero_sub]; exact World.ownsRow_nil w2 w2.heap.size _ 1, Below.refl _ _⟩
      case round =>
        obtain ⟨p, hj, rfl, Hst, Hv, Hb⟩ := hrel
        by_cases hjj : p < ls.length
        · obtain ⟨b, o, rfl, hc⟩ := (Hrl.out.below (bnext Hb2.out Hb.out)) p (.int .i64 (ls.getD p 0)) (by rw [zv_get ls p hjj]; simp [List.getD_eq_getElem?_getD, List.getElem?_eq_getElem hjj])
          have hxe : ls[p] = ls.getD p 0 := by simp [List.getD_eq_getElem?_getD, List.getElem?_eq_getElem hjj]
          have Hta : Hid ((ls.take (p + 1)).any outS = ((ls.take p).any outS || outS (ls.getD p 0))) := by show _ = _; rw [take_any ls p hjj, hxe]
          have HMy := Lib.hid (rmay_still (ls.getD p 0) wr)
          have hsk : okS (ls.take p) := okS_of _ Hst.out
          have htb := toldN_bd cs (ls.take p) sn Hcs.out (by rw [Hm.out]; exact hm32) hsk
          have Hsk := Lib.hid hsk
          have hll : (ls.take p).length = p := by rw [List.length_take]; omega
          have hQ2 : wr.cell? ⟨H, 2, none⟩ = some (.slice Ac m cc) := (Hb.out.cell (p := ⟨H, 2, none⟩) (cell_lt Hq2.out)).trans Hq2.out
          have HQ : Hid (∀ W : World, Below w2.heap.size w2 W → Below w2.heap.size w2 W ∧ W.cell? ⟨b, o + p, none⟩ = some (.int .i64 (ls.getD p 0)) ∧ W.cell? ⟨H, 0, none⟩ = some (.int .i64 pr) ∧ W.cell? ⟨H, 1, none⟩ = some (.int .i64 sn) ∧ W.cell? ⟨H, 2, none⟩ = some (.slice Ac m cc)) := by
            intro W hW
            obtain ⟨b', o', e, hcw⟩ := (Hrl.out.below (bnext Hb2.out hW)) p (.int .i64 (ls.getD p 0)) (by rw [zv_get ls p hjj]; simp [List.getD_eq_getElem?_getD, List.getElem?_eq_getElem hjj])
            injection e with e
            injection e with e1 e2
            subst e1 e2
            exact ⟨hW, hcw, (hW.cell (p := ⟨H, 0, none⟩) (cell_lt Hq0.out)).trans Hq0.out, (hW.cell (p := ⟨H, 1, none⟩) (cell_lt Hq1.out)).trans Hq1.out, (hW.cell (p := ⟨H, 2, none⟩) (cell_lt Hq2.out)).trans Hq2.out⟩
          have HT : Hid (m ≤ p → ∀ W : World, Below w2.heap.size w2 W → Calls Tryd.prog 24 #[.agg #[.int .i64 pr, .int .i64 sn, .slice Ac m cc], .slice (some ⟨b, o, none⟩) p c] W fun e w' => e = .returned (.int .i64 (toldN cs sn (ls.take p))) ∧ Below W.heap.size W w') := by
            intro hmp W hW
            have h := RTold_any pr sn hsn cs (ls.take p) Hcs.out (by rw [Hm.out]; exact hm32) Hsk.out (by rw [Hm.out, hll]; omega) (by rw [hll]; omega) Ac (some ⟨b, o, none⟩) cc c W (Hrc.out.below (bnext Hb2.out hW)) (by rw [zv_take]; exact (Hrl.out.below (bnext Hb2.out hW)).take _)
            rw [hll, Hm.out] at h
            exact h
          have Ht : Hid (m ≤ p → zv ((resN cs sn ls).take (p + 1 - m)) = zv ((resN cs sn ls).take (p - m)) ++ [.int .i64 (ls.getD p 0 - toldN cs sn (ls.take p))]) := by
            intro hmp
            have h := resN_snoc cs sn ls (p - m) (by rw [Hm.out]; omega)
            rw [Hm.out, show m + (p - m) = p from by omega, show p - m + 1 = p + 1 - m from by omega] at h
            exact h
          cases hout : outS (ls.getD p 0) with
          | true =>
            have HE3 : Hid (E = 10) := by
              show _ = _
              have h : ls.any outS = true := any_of_take (i := p + 1) (by rw [Hta.out, hout, Bool.or_true])
              rw [HE2.out, if_pos h]
            have HL1 : Hid (L = []) := by show _ = _; rw [HL.out, HE3.out]; rfl
            rw [hout] at HMy
            have hbe := bnext Hb2.out Hb.out
            clear hout hll hxe Hta HT Ht HQ htb
            generalize ls.getD p 0 = x at *
            go_wp2_with fail
            refine HMy.out.mono ?_
            rintro e w3 ⟨rfl, rfl⟩
            go_wp2_with fail
            go_ret2
            exact ⟨_, by rw [HE3.out]; rfl, by rw [HL1.out]; exact World.ownsRow_nil _ _ _ 1, hbe⟩
          | false =>
            have Hta2 : Hid ((ls.take (p + 1)).any outS = false) := by show _ = _; rw [Hta.out, Hst.out, hout]; rfl
            rw [hout] at HMy
            have hxb : -4294967296 ≤ ls.getD p 0 ∧ ls.getD p 0 < 4294967296 := by
              simp only [outS, Bool.or_eq_false_iff, decide_eq_false_iff_not] at hout
              omega
            clear hout hll hxe Hta
            generalize ls.getD p 0 = x at *
            generalize toldN cs sn (ls.take p) = y at *
            have hi1 : (p : Int) < ls.length := by omega
            have hi2 : (p : Int) ≤ c := by omega
            have hwx : IntKind.i64.wrap (x - y) = x - y := by rw [IntKind.wrap_i64]; omega
            by_cases hmp : m ≤ p
            · have HT := Lib.hid (HT.out hmp)
              have Ht := Lib.hid (Ht.out hmp)
              go_wp2_with fail
              refine HMy.out.mono ?_
              rintro e wr ⟨rfl, rfl⟩
              clear HMy
              go_wp2_with fail
              refine wp_region_headN (fun W' => Below w2.heap.size w2 W' ∧ W'.cell? ⟨b, o + p, none⟩ = some (.int .i64 x) ∧ W'.cell? ⟨H, 0, none⟩ = some (.int .i64 pr) ∧ W'.cell? ⟨H, 1, none⟩ = some (.int .i64 sn) ∧ W'.cell? ⟨H, 2, none⟩ = some (.slice Ac m cc)) 9 5 (by kernel_rfl) rfl (by kernel_rfl) (HQ.out wr.drew (Hb.out.drew)) ?_
              simp only [List.take_succ_cons, List.take_zero]
              refine' wpHead_op _ (by rfl) ?hv1 ?hrest1
              case hv1 => (intro w' hS'; (try dsimp only at hS'); go_simp; try with_reducible rfl)
              try simp only [Act.put, List.setIfInBounds_toArray, List.set_cons_zero, List.set_cons_succ]
              refine' wpHead_op _ (by rfl) ?hv2 ?hrest2
              case hv2 => (intro w' hS'; (try dsimp only at hS'); go_simp; try with_reducible rfl)
              try simp only [Act.put, List.setIfInBounds_toArray, List.set_cons_zero, List.set_cons_succ]
              refine' wpHead_op _ (by rfl) ?hv3 ?hrest3
              case hv3 => (intro w' hS'; (try dsimp only at hS'); go_simp; try with_reducible rfl)
              try simp only [Act.put, List.setIfInBounds_toArray, List.set_cons_zero, List.set_cons_succ]
              refine' wpHead_op _ (by rfl) ?hv4 ?hrest4
              case hv4 => (intro w' hS'; (try dsimp only at hS'); go_simp; try with_reducible rfl)
              try simp only [Act.put, List.setIfInBounds_toArray, List.set_cons_zero, List.set_cons_succ]
              refine' wpHead_op _ (by rfl) ?hv5 ?hrest5
              case hv5 => (intro w' hS'; (try dsimp only at hS'); go_simp; try with_reducible rfl)
              try simp only [Act.put, List.setIfInBounds_toArray, List.set_cons_zero, List.set_cons_succ]
              refine' wpHead_op _ (by rfl) ?hv6 ?hrest6
              case hv6 => (intro w' hS'; (try dsimp only at hS'); go_simp; try with_reducible rfl)
              try simp only [Act.put, List.setIfInBounds_toArray, List.set_cons_zero, List.set_cons_succ]
              refine' wpHead_op _ (by rfl) ?hv7 ?hrest7
              case hv7 => (intro w' hS'; (try dsimp only at hS'); go_simp; try with_reducible rfl)
              try simp only [Act.put, List.setIfInBounds_toArray, List.set_cons_zero, List.set_cons_succ]
              refine' wpHead_op _ (by rfl) ?hv8 ?hrest8
              case hv8 => (intro w' hS'; (try dsimp only at hS'); go_simp; try with_reducible rfl)
              try simp only [Act.put, List.setIfInBounds_toArray, List.set_cons_zero, List.set_cons_succ]
              refine' wpHead_op _ (by rfl) ?hv9 ?hrest9
              case hv9 => (intro w' hS'; (try dsimp only at hS'); go_simp; try with_reducible rfl)
              try simp only [Act.put, List.setIfInBounds_toArray, List.set_cons_zero, List.set_cons_succ]
              refine wpHead_nil ?_
              refine wpAnyH_next (i := 9) (by kernel_rfl) rfl (by rfl) (fun K hK => ?_)
              go_simp
              refine (HT.out wr.drew (Hb.out.drew)).mono ?_
              rintro e w3 ⟨rfl, hb3⟩
              have hb4 : Below w2.heap.size w2 w3 := bnext Hb.out.drew hb3
              have Hv3 := Lib.hid (ownsRow_below (w := wr.drew) Hv.out hb3)
              refine hK.out _ _ (HQ.out _ hb4) ?_
              clear hK K hb3 Hv
              try simp only [Act.put, List.setIfInBounds_toArray, List.set_cons_zero, List.set_cons_succ]
              refine wpAnyH_next (i := 10) (by kernel_rfl) rfl (by rfl) (fun K hK => ?_)
              go_simp
              refine hK.out _ _ (HQ.out _ hb4) ?_
              clear hK K
              try simp only [Act.put, List.setIfInBounds_toArray, List.set_cons_zero, List.set_cons_succ]
              refine wpAnyH_next (i := 11) (by kernel_rfl) rfl (by rfl) (fun K hK => ?_)
              go_simp
              refine hK.out _ _ (HQ.out _ (bal hb4 _)) ?_
              clear hK K
              try simp only [Act.put, List.setIfInBounds_toArray, List.set_cons_zero, List.set_cons_succ]
              refine wpAnyH_next (i := 12) (by kernel_rfl) rfl (by rfl) (fun K hK => ?_)
              refine wp_app1 (w0 := w2) (W := w3.alloc (.cells #[.int .i64 (x - y)] 3)) (H := w3.heap.size) _ _ 22 rfl Tryd.underlying22 info_int rfl (by decide) rfl (Hv3.out.alloc _) (Nat.le_refl _) (by have := hb4.size; simp; omega) (bal hb4 _) rfl (heap_alloc_new w3 _) rfl (one_int _ _) (by omega) (by unfold maxLen; omega) ?_
              intro v1 w6 own1 hb6 hs6
              have Hown1 := Lib.hid own1
              have Hb6 := Lib.hid hb6
              refine hK.out _ _ (HQ.out _ hb6) ?_
              clear hK K own1 Hv3 hb6 hb4
              try simp only [Act.put, List.setIfInBounds_toArray, List.set_cons_zero, List.set_cons_succ]
              refine wpAnyH_next (i := 13) (by kernel_rfl) rfl (by rfl) (fun K hK => ?_)
              go_simp
              refine hK.out _ _ (HQ.out _ Hb6.out) ?_
              clear hK K
              try simp only [Act.put, List.setIfInBounds_toArray, List.set_cons_zero, List.set_cons_succ]
              refine wpAnyH_doneN (by kernel_rfl) ?_
              go_wp2_with fail
              go_roundw
              case rel => exact ⟨p + 1, by omega, by go_num, Hta2, by rw [Ht.out, show p + 1 - m = p - m + 1 from by omega]; exact Hown1, Hb6⟩
              case measure => simp [intOf] <;> omega
            · have e0 : p + 1 - m = 0 := by omega
              have e1 : p - m = 0 := by omega
              have He0 := Lib.hid e0
              have He1 := Lib.hid e1
              clear e0 e1 HT Ht
              go_wp2_with fail
              refine HMy.out.mono ?_
              rintro e w3 ⟨rfl, rfl⟩
              go_wp2_with fail
              go_roundw
              case rel => exact ⟨p + 1, by omega, by go_num, Hta2, by rw [He0.out]; rw [He1.out] at Hv; exact Hv, Hb⟩
              case measure => simp [intOf] <;> omega
        · obtain rfl : p = ls.length := by omega
          have han : ls.any outS = false := by have h := Hst.out; rwa [List.take_length] at h
          have HE3 : Hid (E = 0) := by show _ = _; rw [HE2.out, han]; rfl
          have HL1 : Hid (L = resN cs sn ls) := by show _ = _; rw [HL.out, HE3.out]; rfl
          rw [← Hrl2.out, List.take_length] at Hv
          have hbe := bnext Hb2.out Hb.out
          have hle := Hb2.out.size
          clear han
          go_wp2_with fail
          go_ret2
          exact ⟨_, by rw [HE3.out]; rfl, by rw [← HH.out, HL1.out]; exact ownsRow_less Hv.out hle, hbe⟩
end Go.Proofs.YtghnjgemjiekgaaDoor
