/-
  jetsamref06.Restore: the walk.
-/
import Derived.Test.YtghnjgemjiekgaaDoorRest06
import Derived.Test.YtghnjgemjiekgaaDoorRRes06
namespace Go.Proofs.YtghnjgemjiekgaaDoor
open Go.RowKit

set_option maxRecDepth 100000 in
set_option maxHeartbeats 2000000 in
theorem RRestore_any (pr sh : Int) (cs fs ls : List Int) (Ac F A : Option Addr) (cc cf c : Nat) (w : World) (hrc : Rd w Ac (zv cs)) (hrf : Rd w F (zv fs)) (hrl : Rd w A (zv ls)) (hcl : cs.length ≤ 1000000) (hfl : fs.length ≤ 1000000) (hl2 : ls.length ≤ 900000) :
    Calls Tryd.prog 20 #[.agg #[.int .i64 pr, .int .i64 sh, .slice Ac cs.length cc], .slice F fs.length cf, .slice A ls.length c] w fun e w' => ∃ v, e = .returned (.tuple #[v, .int .i64 (rsE pr sh cs fs ls)]) ∧ Hid (w'.ownsRow w.heap.size 3 1 v (rsL pr sh cs fs ls).length (zv (rsL pr sh cs fs ls))) ∧ Below w.heap.size w w' := by
  have HC := Lib.hid (fun W (hW : Below w.heap.size w W) => RCheck_any pr sh cs Ac cc W (hrc.below hW) (by omega))
  have HE : Hid (rsE pr sh cs fs ls = if okL pr sh cs = false then 10 else if fs.length = cs.length then (if fs.any outS = true then 10 else if (rst cs sh.toNat fs ls).isSome = true then 0 else 10) else 1) := rfl
  have HL : Hid (rsL pr sh cs fs ls = if rsE pr sh cs fs ls = 0 then (rst cs sh.toNat fs ls).getD [] else []) := rfl
  have Hrc := Lib.hid hrc
  have Hrf := Lib.hid hrf
  have Hrl := Lib.hid hrl
  clear hrc hrl hrf
  generalize rsE pr sh cs fs ls = E at *
  generalize rsL pr sh cs fs ls = L at *
  cases hok : okL pr sh cs with
  | false =>
    have HE1 : Hid (E = 10) := by show _ = _; rw [HE.out, hok]; rfl
    have HL1 : Hid (L = []) := by show _ = _; rw [HL.out, HE1.out]; rfl
    rw [hok] at HC
    clear hok HE HL
    generalize cs.length = m at *
    go_enter Tryd.func20, Tryd.ntmps20
    go_wp2_with fail
    refine (HC.out _ (by repeat (first | exact Below.refl _ _ | assumption | refine below_drewN ?_ _ | refine Below.drew ?_ | refine Below.alloc ?_ (Nat.le_refl _) _ | refine bal ?_ _ | refine bnext ?_ (by assumption)))).mono ?_
    rintro e w1 ⟨rfl, hb1⟩
    have hb2 : Below w.heap.size w w1 := by repeat (first | exact Below.refl _ _ | assumption | refine below_drewN ?_ _ | refine Below.drew ?_ | refine Below.alloc ?_ (Nat.le_refl _) _ | refine bal ?_ _ | refine bnext ?_ (by assumption))
    simp only [chkP]
    go_wp2_with fail
    go_ret2
    exact ⟨_, by rw [HE1.out]; rfl, by rw [HL1.out]; exact World.ownsRow_nil _ _ _ 1, hb2⟩
  | true =>
    rw [hok] at HC
    obtain ⟨hm32, hsh, hcs⟩ := okL_spec hok
    by_cases hlt : fs.length = cs.length
    · have HE2 : Hid (E = if fs.any outS = true then 10 else if (rst cs sh.toNat fs ls).isSome = true then 0 else 10) := by show _ = _; rw [HE.out, hok, if_neg (by decide), if_pos hlt]
      obtain ⟨sn, rfl⟩ : ∃ sn : Nat, sh = sn := ⟨sh.toNat, by omega⟩
      rw [Int.toNat_natCast] at HL HE2
      have hsn : sn ≤ 15 := by omega
      have Hcs := Lib.hid hcs
      have Hok := Lib.hid hok
      clear hok HE hcs hsh
      go_enter Tryd.func20, Tryd.ntmps20
      go_wp2_with fail
      refine (HC.out _ (by repeat (first | exact Below.refl _ _ | assumption | refine below_drewN ?_ _ | refine Below.drew ?_ | refine Below.alloc ?_ (Nat.le_refl _) _ | refine bal ?_ _ | refine bnext ?_ (by assumption)))).mono ?_
      rintro e w2 ⟨rfl, hb1⟩
      have hq0 : w2.cell? ⟨w.heap.size, 0, none⟩ = some (.int .i64 pr) := (hb1.cell (p := ⟨w.heap.size, 0, none⟩) (by simp)).trans (by go_simp)
      have hq1 : w2.cell? ⟨w.heap.size, 1, none⟩ = some (.int .i64 sn) := (hb1.cell (p := ⟨w.heap.size, 1, none⟩) (by simp)).trans (by go_simp)
      have hq2 : w2.cell? ⟨w.heap.size, 2, none⟩ = some (.slice Ac cs.length cc) := (hb1.cell (p := ⟨w.heap.size, 2, none⟩) (by simp)).trans (by go_simp)
      have Hb2 : Hid (Below w.heap.size w w2) := by show Below _ _ _; repeat (first | exact Below.refl _ _ | assumption | refine below_drewN ?_ _ | refine Below.drew ?_ | refine Below.alloc ?_ (Nat.le_refl _) _ | refine bal ?_ _ | refine bnext ?_ (by assumption))
      clear hb1 HC
      simp only [chkP]
      have Hq0 := Lib.hid hq0
      have Hq1 := Lib.hid hq1
      have Hq2 := Lib.hid hq2
      obtain ⟨m, hm⟩ : ∃ m, cs.length = m := ⟨_, rfl⟩
      have Hm := Lib.hid hm
      have Hfm : Hid (fs.length = m) := hlt.trans hm
      rw [hm] at hm32 Hq2 hq2 ⊢
      rw [Hfm.out]
      clear hm hlt
      go_wp2_with fail
      clear hq0 hq1 hq2
      obtain ⟨H, hH⟩ : ∃ H, w.heap.size = H := ⟨_, rfl⟩
      rw [hH] at Hq0 Hq1 Hq2 ⊢
      have HH := Lib.hid hH
      clear hH
      go_loopw [9, 10] (fun v iv wr => ∃ p : Nat, p ≤ m ∧ iv = .int .i64 (p : Int) ∧ Hid ((fs.take p).any outS = false) ∧ Hid (wr.ownsRow w2.heap.size 3 1 v p (zv (fs.take p))) ∧ Hid (Below w2.heap.size w2 wr)) (fun _ iv _ => m - (intOf iv).toNat)
      case atStart => exact ⟨0, by omega, rfl, by simp [Hid], World.ownsRow_nil w2 w2.heap.size _ 1, Below.refl _ _⟩
      case round =>
        obtain ⟨p, hj, rfl, Hst, Hv, Hb⟩ := hrel
        by_cases hjj : p < m
        · have hjf : p < fs.length := by rw [Hfm.out]; exact hjj
          obtain ⟨b, o, rfl, hc⟩ := (Hrf.out.below (bnext Hb2.out Hb.out)) p (.int .i64 fs[p]) (by simp [zv, hjf])
          have Hta : Hid ((fs.take (p + 1)).any outS = ((fs.take p).any outS || outS fs[p])) := by show _ = _; rw [take_any fs p hjf]
          have Htz : Hid (zv (fs.take (p + 1)) = zv (fs.take p) ++ [.int .i64 fs[p]]) := by show _ = _; rw [List.take_succ_eq_append_getElem hjf, zv_snoc]
          have HMy := Lib.hid (rmay_still fs[p] wr)
          cases hout : outS fs[p] with
          | true =>
            have HE3 : Hid (E = 10) := by
              show _ = _
              have h : fs.any outS = true := any_of_take (i := p + 1) (by rw [Hta.out, hout, Bool.or_true])
              rw [HE2.out, if_pos h]
            have HL1 : Hid (L = []) := by show _ = _; rw [HL.out, HE3.out]; rfl
            rw [hout] at HMy
            have hbe := bnext Hb2.out Hb.out
            clear hout Hta
            generalize fs[p] = x at *
            go_wp2_with fail
            refine HMy.out.mono ?_
            rintro e w3 ⟨rfl, rfl⟩
            go_wp2_with fail
            go_ret2
            exact ⟨_, by rw [HE3.out]; rfl, by rw [HL1.out]; exact World.ownsRow_nil _ _ _ 1, hbe⟩
          | false =>
            have Hta2 : Hid ((fs.take (p + 1)).any outS = false) := by show _ = _; rw [Hta.out, Hst.out, hout]; rfl
            rw [hout] at HMy
            have hbs := Hb.out.size
            clear hout Hta
            generalize fs[p] = x at *
            go_wp2_with fail
            refine HMy.out.mono ?_
            rintro e w3 ⟨rfl, rfl⟩
            go_wp2_with (at_builtin; refine app1 (w0 := w2) rfl _ _ 22 rfl Tryd.underlying22 info_int rfl (by decide) rfl Hv.out (Nat.le_refl _) hbs Hb.out rfl rfl (one_int _ _) (by omega) (by unfold maxLen; omega) ?_; intro v1 w6 own1 hb6 hs6; have Hown1 := Lib.hid own1; have Hb6 := Lib.hid hb6; clear own1 hb6)
            go_roundw
            case rel => exact ⟨p + 1, by omega, by go_num, Hta2.out, by rw [Htz.out]; exact Hown1.out, Hb6.out⟩
            case measure => simp [intOf] <;> omega
        · obtain rfl : p = m := by omega
          have han : fs.any outS = false := by have h := Hst.out; rwa [← Hfm.out, List.take_length] at h
          have HE3 : Hid (E = if (rst cs sn fs ls).isSome = true then 0 else 10) := by show _ = _; rw [HE2.out, if_neg (by rw [han]; decide)]
          have Hsk := Lib.hid (okS_of fs han)
          have hv := Hv.out
          rw [← Hfm.out, List.take_length, Hfm.out] at hv
          have Hv := Lib.hid hv
          clear han hv HE2 Hst
          obtain ⟨R, hR⟩ : ∃ R, rst cs sn fs ls = R := ⟨_, rfl⟩
          rw [hR] at HE3 HL
          have HR : Hid (rst cs sn fs (ls.drop 0) = R) := hR
          clear hR
          obtain ⟨w5, rfl⟩ : ∃ w5, w5 = wr := ⟨_, rfl⟩
          go_wp2_with fail
          go_loopw [9, 11] (fun v iv wr => ∃ (k q : Nat) (o : List Int), k ≤ ls.length ∧ iv = .int .i64 (k : Int) ∧ Hid (p + k = q) ∧ Hid (rst cs sn o (ls.drop k) = R) ∧ Hid (okS o) ∧ Hid (o.length = q) ∧ Hid (wr.ownsRow w2.heap.size 3 1 v q (zv o)) ∧ Hid (Below w2.heap.size w2 wr)) (fun _ iv _ => ls.length - (intOf iv).toNat)
          case atStart => exact ⟨0, p, fs, by omega, rfl, rfl, HR.out, Hsk.out, Hfm.out, Hv.out, Hb.out⟩
          case round =>
            clear Hv Hb
            obtain ⟨k, q, o, hk, rfl, Hp, HRo, Hso, Hol, Hv, Hb⟩ := hrel
            by_cases hkk : k < ls.length
            · obtain ⟨b, ob, rfl, hc⟩ := (Hrl.out.below (bnext Hb2.out Hb.out)) k (.int .i64 ls[k]) (by simp [zv, hkk])
              obtain ⟨A1, c1, rfl, hpc, hc63, hro, -⟩ := own_rd4 Hv.out
              have Hro := Lib.hid hro
              have htb := toldN_bd cs o sn Hcs.out (by rw [Hm.out]; exact hm32) Hso.out
              have HRn : Hid (rst cs sn o (ls.drop k) = if outS (ls[k] + toldN cs sn o) = true then none else rst cs sn (o ++ [ls[k] + toldN cs sn o]) (ls.drop (k + 1))) := by
                show _ = _
                rw [List.drop_eq_getElem_cons hkk]; rfl
              have Hsn : Hid (outS (ls[k] + toldN cs sn o) = false → okS (o ++ [ls[k] + toldN cs sn o])) := fun h => okS_snoc Hso.out h
              have HT : Hid (∀ W : World, Below w2.heap.size w2 W → Rd W A1 (zv o) → Calls Tryd.prog 24 #[.agg #[.int .i64 pr, .int .i64 sn, .slice Ac p cc], .slice A1 q c1] W fun e w' => e = .returned (.int .i64 (toldN cs sn o)) ∧ Below W.heap.size W w') := by
                intro W hW hr
                have h := RTold_any pr sn hsn cs o Hcs.out (by rw [Hm.out]; exact hm32) Hso.out (by rw [Hm.out, Hol.out, ← Hp.out]; omega) (by rw [Hol.out, ← Hp.out]; omega) Ac A1 cc c1 W (Hrc.out.below (bnext Hb2.out hW)) hr
                rw [Hol.out, Hm.out] at h
                exact h
              have HQ : Hid (∀ W : World, Below w2.heap.size w2 W → Below w2.heap.size w2 W ∧ W.cell? ⟨b, ob + k, none⟩ = some (.int .i64 ls[k]) ∧ W.cell? ⟨H, 0, none⟩ = some (.int .i64 pr) ∧ W.cell? ⟨H, 1, none⟩ = some (.int .i64 sn) ∧ W.cell? ⟨H, 2, none⟩ = some (.slice Ac p cc)) := by
                intro W hW
                obtain ⟨b', o', e, hcw⟩ := (Hrl.out.below (bnext Hb2.out hW)) k (.int .i64 ls[k]) (by simp [zv, hkk])
                injection e with e
                injection e with e1 e2
                subst e1 e2
                exact ⟨hW, hcw, (hW.cell (p := ⟨H, 0, none⟩) (cell_lt Hq0.out)).trans Hq0.out, (hW.cell (p := ⟨H, 1, none⟩) (cell_lt Hq1.out)).trans Hq1.out, (hW.cell (p := ⟨H, 2, none⟩) (cell_lt Hq2.out)).trans Hq2.out⟩
              have hp9 : q ≤ 1000000 := by rw [← Hp.out]; omega
              have HMy : Hid (∀ W, Calls Tryd.prog 23 #[.int .i64 (ls[k] + toldN cs sn o)] W fun e w' => e = .returned (.bool (!outS (ls[k] + toldN cs sn o))) ∧ w' = W) := fun W => rmay_still (ls[k] + toldN cs sn o) W
              clear hro
              generalize ls[k] = x at *
              generalize toldN cs sn o = y at *
              have hki : (k : Int) < ls.length := by omega
              by_cases q1 : x < -1152921504606846976
              · have HE1 : Hid (E = 10) := by
                  show _ = _
                  have h : outS (x + y) = true := by simp [outS]; omega
                  rw [HE3.out, ← HRo.out, HRn.out, if_pos h]; rfl
                have HL1 : Hid (L = []) := by show _ = _; rw [HL.out, HE1.out]; rfl
                have hbe := bnext Hb2.out Hb.out
                go_wp2_with fail
                go_ret2
                exact ⟨_, by rw [HE1.out]; rfl, by rw [HL1.out]; exact World.ownsRow_nil _ _ _ 1, hbe⟩
              · by_cases q2 : x > 1152921504606846976
                · have HE1 : Hid (E = 10) := by
                    show _ = _
                    have h : outS (x + y) = true := by simp [outS]; omega
                    rw [HE3.out, ← HRo.out, HRn.out, if_pos h]; rfl
                  have HL1 : Hid (L = []) := by show _ = _; rw [HL.out, HE1.out]; rfl
                  have hbe := bnext Hb2.out Hb.out
                  go_wp2_with fail
                  go_ret2
                  exact ⟨_, by rw [HE1.out]; rfl, by rw [HL1.out]; exact World.ownsRow_nil _ _ _ 1, hbe⟩
                · have hwx : IntKind.i64.wrap (x + y) = x + y := by rw [IntKind.wrap_i64]; omega
                  go_upto_region 18 with fail
                  refine wp_region_headN (fun W' => Below w2.heap.size w2 W' ∧ W'.cell? ⟨b, ob + k, none⟩ = some (.int .i64 x) ∧ W'.cell? ⟨H, 0, none⟩ = some (.int .i64 pr) ∧ W'.cell? ⟨H, 1, none⟩ = some (.int .i64 sn) ∧ W'.cell? ⟨H, 2, none⟩ = some (.slice Ac p cc)) 6 3 (by kernel_rfl) rfl (by kernel_rfl) (HQ.out wr.drew (Hb.out.drew)) ?_
                  simp only [List.take_succ_cons, List.take_zero]
                  refine' wpHead_op _ (by rfl) ?hv1 ?hrest1
                  case hv1 => (intro w' hS'; (try dsimp only at hS'); go_simp; try with_reducible rfl)
                  try simp only [Act.put, List.setIfInBounds_toArray, List.set_cons_zero, List.set_cons_succ]
                  refine' wpHead_op _ (by rfl) ?hv2 ?hrest2
                  case hv2 => (intro w' hS'; (try dsimp only at hS'); go_simp; try with_reducible rfl)
                  try simp only [Act.put, List.setIfInBounds_toArray, List.set_cons_zero, List.set_cons_succ]
                  refine' wpHead_op _ (by rfl) ?hv3 ?hrest3
                  case hv3 => (intro w' hS'; (try dsimp only at hS'); go_simp; try with_reducible rfl)
                  try simp only [Act.put, List.setIfInBounds_toArray, List.set_cons_zero, List.set_cons_succ]
                  refine' wpHead_op _ (by rfl) ?hv4 ?hrest4
                  case hv4 => (intro w' hS'; (try dsimp only at hS'); go_simp; try with_reducible rfl)
                  try simp only [Act.put, List.setIfInBounds_toArray, List.set_cons_zero, List.set_cons_succ]
                  refine' wpHead_op _ (by rfl) ?hv5 ?hrest5
                  case hv5 => (intro w' hS'; (try dsimp only at hS'); go_simp; try with_reducible rfl)
                  try simp only [Act.put, List.setIfInBounds_toArray, List.set_cons_zero, List.set_cons_succ]
                  refine' wpHead_op _ (by rfl) ?hv6 ?hrest6
                  case hv6 => (intro w' hS'; (try dsimp only at hS'); go_simp; try with_reducible rfl)
                  try simp only [Act.put, List.setIfInBounds_toArray, List.set_cons_zero, List.set_cons_succ]
                  refine wpHead_nil ?_
                  refine wpAnyH_next (i := 6) (by kernel_rfl) rfl (by rfl) (fun K hK => ?_)
                  go_simp
                  refine (HT.out wr.drew (Hb.out.drew) Hro.out).mono ?_
                  rintro e w3 ⟨rfl, hb3⟩
                  have hb4 : Below w2.heap.size w2 w3 := bnext Hb.out.drew hb3
                  have Hv3 := Lib.hid (ownsRow_below (w := wr.drew) Hv.out hb3)
                  refine hK.out _ _ (HQ.out _ hb4) ?_
                  clear hK K hb3 Hv
                  try simp only [Act.put, List.setIfInBounds_toArray, List.set_cons_zero, List.set_cons_succ]
                  refine wpAnyH_next (i := 7) (by kernel_rfl) rfl (by rfl) (fun K hK => ?_)
                  go_simp
                  refine hK.out _ _ (HQ.out _ hb4) ?_
                  clear hK K
                  try simp only [Act.put, List.setIfInBounds_toArray, List.set_cons_zero, List.set_cons_succ]
                  refine wpAnyH_next (i := 8) (by kernel_rfl) rfl (by rfl) (fun K hK => ?_)
                  go_simp
                  refine hK.out _ _ (HQ.out _ hb4) ?_
                  clear hK K
                  try simp only [Act.put, List.setIfInBounds_toArray, List.set_cons_zero, List.set_cons_succ]
                  refine wpAnyH_doneN (by kernel_rfl) ?_
                  have Hb4 := Lib.hid hb4
                  clear hb4
                  cases hout : outS (x + y) with
                  | true =>
                    have HE1 : Hid (E = 10) := by
                      show _ = _
                      rw [HE3.out, ← HRo.out, HRn.out, if_pos hout]; rfl
                    have HL1 : Hid (L = []) := by show _ = _; rw [HL.out, HE1.out]; rfl
                    have hbe := bnext Hb2.out Hb4.out
                    rw [hout] at HMy
                    clear hout
                    go_wp2_with fail
                    refine (HMy.out _).mono ?_
                    rintro e w3 ⟨rfl, rfl⟩
                    go_wp2_with fail
                    go_ret2
                    exact ⟨_, by rw [HE1.out]; rfl, by rw [HL1.out]; exact World.ownsRow_nil _ _ _ 1, hbe⟩
                  | false =>
                    have HRo2 : Hid (rst cs sn (o ++ [x + y]) (ls.drop (k + 1)) = R) := by
                      show _ = _
                      rw [← HRo.out, HRn.out, if_neg (by rw [hout]; decide)]
                    have Hsn2 := Lib.hid (Hsn.out hout)
                    have hs5 := Hb4.out.size
                    rw [hout] at HMy
                    clear hout Hsn HRn
                    go_wp2_with fail
                    refine (HMy.out _).mono ?_
                    rintro e w3 ⟨rfl, rfl⟩
                    go_wp2_with (at_builtin; refine app1 (w0 := w2) rfl _ _ 22 rfl Tryd.underlying22 info_int rfl (by decide) rfl Hv3.out (Nat.le_refl _) hs5 Hb4.out rfl rfl (one_int _ _) (by omega) (by unfold maxLen; omega) ?_; intro v1 w6 own1 hb6 hs6; have Hown1 := Lib.hid own1; have Hb6 := Lib.hid hb6; clear own1 hb6)
                    go_roundw
                    case rel => exact ⟨k + 1, q + 1, o ++ [x + y], by omega, by go_num, by show _ = _; rw [← Hp.out]; rfl, HRo2.out, Hsn2.out, by show _ = _; rw [List.length_append, Hol.out]; rfl, by rw [zv_snoc]; exact Hown1.out, Hb6.out⟩
                    case measure => simp [intOf] <;> omega
            · obtain rfl : k = ls.length := by omega
              have HRs : Hid (R = some o) := by
                show _ = _
                rw [← HRo.out, List.drop_length]; rfl
              have HE1 : Hid (E = 0) := by show _ = _; rw [HE3.out, HRs.out]; rfl
              have HL1 : Hid (L = o) := by show _ = _; rw [HL.out, HE1.out, HRs.out]; rfl
              have hbe := bnext Hb2.out Hb.out
              have hle := Hb2.out.size
              go_wp2_with fail
              go_ret2
              exact ⟨_, by rw [HE1.out]; rfl, by rw [← HH.out, HL1.out, Hol.out]; exact ownsRow_less Hv.out hle, hbe⟩
    · have HE1 : Hid (E = 1) := by show _ = _; rw [HE.out, hok, if_neg (by decide), if_neg hlt]
      have HL1 : Hid (L = []) := by show _ = _; rw [HL.out, HE1.out]; rfl
      clear hok HE HL hcs
      generalize cs.length = m at *
      generalize fs.length = n at *
      go_enter Tryd.func20, Tryd.ntmps20
      go_wp2_with fail
      refine (HC.out _ (by repeat (first | exact Below.refl _ _ | assumption | refine below_drewN ?_ _ | refine Below.drew ?_ | refine Below.alloc ?_ (Nat.le_refl _) _ | refine bal ?_ _ | refine bnext ?_ (by assumption)))).mono ?_
      rintro e w1 ⟨rfl, hb1⟩
      have hq2 : w1.cell? ⟨w.heap.size, 2, none⟩ = some (.slice Ac m cc) := (hb1.cell (p := ⟨w.heap.size, 2, none⟩) (by simp)).trans (by go_simp)
      have hb2 : Below w.heap.size w w1 := by repeat (first | exact Below.refl _ _ | assumption | refine below_drewN ?_ _ | refine Below.drew ?_ | refine Below.alloc ?_ (Nat.le_refl _) _ | refine bal ?_ _ | refine bnext ?_ (by assumption))
      simp only [chkP]
      go_wp2_with fail
      go_ret2
      exact ⟨_, by rw [HE1.out]; rfl, by rw [HL1.out]; exact World.ownsRow_nil _ _ _ 1, hb2⟩
end Go.Proofs.YtghnjgemjiekgaaDoor
