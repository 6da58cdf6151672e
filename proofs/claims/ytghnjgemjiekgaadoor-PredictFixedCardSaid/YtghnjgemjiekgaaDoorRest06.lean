/-
  predict.Restore: what it answers, and its walk.
-/
import Derived.Test.YtghnjgemjiekgaaDoorClone06
namespace Go.Proofs.YtghnjgemjiekgaaDoor
open Go.RowKit

def rst (cs : List Int) (sh : Nat) : List Int → List Int → Option (List Int)
  | o, [] => some o
  | o, x :: l => if outS (x + toldN cs sh o) = true then none else rst cs sh (o ++ [x + toldN cs sh o]) l
def rsR (pr sh : Int) (cs fs ls : List Int) : Option (List Int) := rst cs sh.toNat fs ls
def rsE (pr sh : Int) (cs fs ls : List Int) : Int := if okL pr sh cs = false then 10 else if fs.length = cs.length then (if fs.any outS = true then 10 else if (rst cs sh.toNat fs ls).isSome = true then 0 else 10) else 1
def rsL (pr sh : Int) (cs fs ls : List Int) : List Int := if rsE pr sh cs fs ls = 0 then (rst cs sh.toNat fs ls).getD [] else []
theorem okS_snoc {l : List Int} {x : Int} (h : okS l) (hx : outS x = false) : okS (l ++ [x]) := by
  intro y hy
  rcases List.mem_append.1 hy with hy | hy
  · exact h y hy
  · simp at hy
    subst hy
    simp only [outS, Bool.or_eq_false_iff, decide_eq_false_iff_not] at hx
    omega
theorem own_rd4 {w : World} {base : Nat} {e : TypeId} {v : Value} {n : Nat} {xs : List Value} (h : w.ownsRow base e 1 v n xs) :
    ∃ A c, v = .slice A n c ∧ n ≤ c ∧ c ≤ 9223372036854775807 ∧ Rd w A xs ∧ (A = none → n = 0 ∧ c = 0) := by
  obtain ⟨A, c, rfl, hc, hr⟩ := own_rd h
  refine ⟨A, c, rfl, hc, ?_, hr, ?_⟩
  · rcases h.2 with ⟨e, hn⟩ | ⟨g, cap, cur, e, hb, hg, hn, hm, hs, ht⟩
    · injection e with e1 e2 e3; omega
    · injection e with e1 e2 e3; subst e3; unfold maxLen at hm; omega
  · rintro rfl
    rcases h.2 with ⟨e, hn⟩ | ⟨g, cap, cur, e, hb, hg, hn, hm, hs, ht⟩
    · injection e with e1 e2 e3; exact ⟨e2, e3⟩
    · injection e with e1 e2 e3; cases e1

theorem rst_length (cs : List Int) (sh : Nat) (ls : List Int) : ∀ o r, rst cs sh o ls = some r → r.length = o.length + ls.length := by
  induction ls with
  | nil => intro o r h; simp only [rst, Option.some.injEq] at h; subst h; simp
  | cons x l ih =>
    intro o r h
    rw [rst] at h
    split at h
    · cases h
    · have := ih _ _ h
      simp only [List.length_append, List.length_cons, List.length_nil] at this ⊢
      omega
theorem rsL_length (pr sh : Int) (cs fs ls : List Int) : (rsL pr sh cs fs ls).length ≤ fs.length + ls.length := by
  unfold rsL
  split
  · cases h : rst cs sh.toNat fs ls with
    | none => simp
    | some r => rw [Option.getD_some, rst_length cs _ ls _ _ h]; exact Nat.le_refl _
  · simp
theorem clone_any (fs : List Int) (A : Option Addr) (c : Nat) (w : World) (hr : Rd w A (zv fs)) (hl : fs.length ≤ 1000000) (hn : A = none → fs.length = 0 ∧ c = 0) :
    Calls Tryd.prog 27 #[.slice A fs.length c] w fun e w' => ∃ v, e = .returned v ∧ Hid (w'.ownsRow w.heap.size 3 1 v fs.length (zv fs)) ∧ Below w.heap.size w w' := by
  cases A with
  | none =>
    obtain ⟨h1, rfl⟩ := hn rfl
    obtain rfl := List.eq_nil_of_length_eq_zero h1
    refine (clone_nil w).mono ?_
    rintro e w' ⟨rfl, rfl⟩
    exact ⟨_, rfl, World.ownsRow_nil _ _ _ 1, Below.refl _ _⟩
  | some ad => exact clone_some (zv fs) fs.length (by simp [zv]) (zv_one _) ad c w hr hl

set_option maxRecDepth 100000 in
set_option maxHeartbeats 2000000 in
theorem Restore_any (pr sh : Int) (cs fs ls : List Int) (Ac F A : Option Addr) (cc cf c : Nat) (w : World) (hrc : Rd w Ac (zv cs)) (hrf : Rd w F (zv fs)) (hrl : Rd w A (zv ls)) (hcl : cs.length ≤ 1000000) (hfl : fs.length ≤ 1000000) (hl2 : ls.length ≤ 900000) (hfn : F = none → fs.length = 0 ∧ cf = 0) :
    Calls Tryd.prog 19 #[.agg #[.int .i64 pr, .int .i64 sh, .slice Ac cs.length cc], .slice F fs.length cf, .slice A ls.length c] w fun e w' => ∃ v, e = .returned (.tuple #[v, .int .i64 (rsE pr sh cs fs ls)]) ∧ Hid (w'.ownsRow w.heap.size 3 1 v (rsL pr sh cs fs ls).length (zv (rsL pr sh cs fs ls))) ∧ Below w.heap.size w w' := by
  have HC := Lib.hid (fun W (hW : Below w.heap.size w W) => Check_any pr sh cs Ac cc W (hrc.below hW) (by omega))
  have HM := Lib.hid (fun W (hW : Below w.heap.size w W) => may_any fs F cf W (hrf.below hW) (by omega))
  have HK := Lib.hid (fun W (hW : Below w.heap.size w W) => clone_any fs F cf W (hrf.below hW) hfl hfn)
  have HE : Hid (rsE pr sh cs fs ls = if okL pr sh cs = false then 10 else if fs.length = cs.length then (if fs.any outS = true then 10 else if (rst cs sh.toNat fs ls).isSome = true then 0 else 10) else 1) := rfl
  have HL : Hid (rsL pr sh cs fs ls = if rsE pr sh cs fs ls = 0 then (rst cs sh.toNat fs ls).getD [] else []) := rfl
  have Hrc := Lib.hid hrc
  have Hrl := Lib.hid hrl
  clear hrc hrl hrf hfn
  generalize rsE pr sh cs fs ls = E at *
  generalize rsL pr sh cs fs ls = L at *
  cases hok : okL pr sh cs with
  | false =>
    have HE1 : Hid (E = 10) := by show _ = _; rw [HE.out, hok]; rfl
    have HL1 : Hid (L = []) := by show _ = _; rw [HL.out, HE1.out]; rfl
    rw [hok] at HC
    clear hok HE HL
    generalize cs.length = m at *
    go_enter Tryd.func19, Tryd.ntmps19
    go_wp2_with fail
    go_step3
    go_wp2_with fail
    refine (HC.out _ (by repeat (first | exact Below.refl _ _ | assumption | refine below_drewN ?_ _ | refine Below.drew ?_ | refine Below.alloc ?_ (Nat.le_refl _) _ | refine bal ?_ _ | refine bnext ?_ (by assumption)))).mono ?_
    rintro e w1 ⟨rfl, hb1⟩
    have hb2 : Below w.heap.size w w1 := by repeat (first | exact Below.refl _ _ | assumption | refine below_drewN ?_ _ | refine Below.drew ?_ | refine Below.alloc ?_ (Nat.le_refl _) _ | refine bal ?_ _ | refine bnext ?_ (by assumption))
    simp only [chkP]
    go_wp2_with fail
    try rw [Exit.noGoto_ret]
    go_ret2
    exact ⟨_, by rw [HE1.out]; rfl, by rw [HL1.out]; exact World.ownsRow_nil _ _ _ 1, hb2⟩
  | true =>
    rw [hok] at HC
    obtain ⟨hm32, hsh, hcs⟩ := okL_spec hok
    by_cases hlt : fs.length = cs.length
    · obtain ⟨an, han⟩ : ∃ an, fs.any outS = an := ⟨_, rfl⟩
      have HE2 : Hid (E = if an = true then 10 else if (rst cs sh.toNat fs ls).isSome = true then 0 else 10) := by show _ = _; rw [HE.out, hok, if_neg (by decide), if_pos hlt, han]
      obtain ⟨sn, rfl⟩ : ∃ sn : Nat, sh = sn := ⟨sh.toNat, by omega⟩
      rw [Int.toNat_natCast] at HL HE2
      have hsn : sn ≤ 15 := by omega
      have Hcs := Lib.hid hcs
      have Hlt := Lib.hid hlt
      rw [hlt] at HM HK
      rw [han] at HM
      have Hok := Lib.hid hok
      rw [hlt]
      clear hok HE hcs hsh
      go_enter Tryd.func19, Tryd.ntmps19
      go_wp2_with fail
      go_step3
      go_wp2_with fail
      refine (HC.out _ (by repeat (first | exact Below.refl _ _ | assumption | refine below_drewN ?_ _ | refine Below.drew ?_ | refine Below.alloc ?_ (Nat.le_refl _) _ | refine bal ?_ _ | refine bnext ?_ (by assumption)))).mono ?_
      rintro e w1 ⟨rfl, hb1⟩
      have hq0 : w1.cell? ⟨w.heap.size, 0, none⟩ = some (.int .i64 pr) := (hb1.cell (p := ⟨w.heap.size, 0, none⟩) (by simp)).trans (by go_simp)
      have hq1 : w1.cell? ⟨w.heap.size, 1, none⟩ = some (.int .i64 sn) := (hb1.cell (p := ⟨w.heap.size, 1, none⟩) (by simp)).trans (by go_simp)
      have hq2 : w1.cell? ⟨w.heap.size, 2, none⟩ = some (.slice Ac cs.length cc) := (hb1.cell (p := ⟨w.heap.size, 2, none⟩) (by simp)).trans (by go_simp)
      have hb2 : Below w.heap.size w w1 := by repeat (first | exact Below.refl _ _ | assumption | refine below_drewN ?_ _ | refine Below.drew ?_ | refine Below.alloc ?_ (Nat.le_refl _) _ | refine bal ?_ _ | refine bnext ?_ (by assumption))
      clear hb1 HC
      simp only [chkP]
      go_wp2_with fail
      refine (HK.out _ hb2).mono ?_
      rintro e w2 ⟨vo, rfl, Hown, hb3⟩
      have Hb1 := Lib.hid hb2
      have Hb3 := Lib.hid hb3
      have Hq0 := Lib.hid hq0
      have Hq1 := Lib.hid hq1
      have Hq2 := Lib.hid hq2
      clear hb3 hq0 hq1 hq2 HK hb2
      go_wp2_with fail
      refine (HM.out _ (bnext Hb1.out Hb3.out)).mono ?_
      rintro e w3 ⟨rfl, rfl⟩
      clear HM
      cases an with
      | true =>
        have HE1 : Hid (E = 10) := by show _ = _; rw [HE2.out]; rfl
        have HL1 : Hid (L = []) := by show _ = _; rw [HL.out, HE1.out]; rfl
        have hbe := bnext Hb1.out Hb3.out
        go_wp2_with fail
        try rw [Exit.noGoto_ret]
        go_ret2
        exact ⟨_, by rw [HE1.out]; rfl, by rw [HL1.out]; exact World.ownsRow_nil _ _ _ 1, hbe⟩
      | false =>
        have HE3 : Hid (E = if (rst cs sn fs ls).isSome = true then 0 else 10) := by show _ = _; rw [HE2.out, if_neg (by decide)]
        have Hsk := Lib.hid (okS_of fs han)
        clear HE2 han
        obtain ⟨H, hH⟩ : ∃ H, w.heap.size = H := ⟨_, rfl⟩
        rw [hH] at Hq0 Hq1 Hq2 ⊢
        have HH := Lib.hid hH
        clear hH
        obtain ⟨m, hm⟩ : ∃ m, cs.length = m := ⟨_, rfl⟩
        have Hm := Lib.hid hm
        have Hfm : Hid (fs.length = m) := hlt.trans hm
        rw [hm] at hm32 Hq2 Hown ⊢
        clear hm hlt Hlt
        obtain ⟨R, hR⟩ : ∃ R, rst cs sn fs ls = R := ⟨_, rfl⟩
        rw [hR] at HE3 HL
        have HR : Hid (rst cs sn fs (ls.drop 0) = R) := hR
        clear hR
        have HQ : Hid (∀ W : World, Below w1.heap.size w1 W → W.cell? ⟨H, 0, none⟩ = some (.int .i64 pr) ∧ W.cell? ⟨H, 1, none⟩ = some (.int .i64 sn) ∧ W.cell? ⟨H, 2, none⟩ = some (.slice Ac m cc)) := fun W hW =>
          ⟨(hW.cell (p := ⟨H, 0, none⟩) (cell_lt Hq0.out)).trans Hq0.out, (hW.cell (p := ⟨H, 1, none⟩) (cell_lt Hq1.out)).trans Hq1.out, (hW.cell (p := ⟨H, 2, none⟩) (cell_lt Hq2.out)).trans Hq2.out⟩
        go_wp2_with fail
        go_step3
        go_wp2_with fail
        go_loopw [9, 10, 32] (fun v ev iv wr => ∃ (k p : Nat) (o : List Int), k ≤ ls.length ∧ iv = .int .i64 (k : Int) ∧ ev = .int .i64 0 ∧ Hid (m + k = p) ∧ Hid (rst cs sn o (ls.drop k) = R) ∧ Hid (okS o) ∧ Hid (o.length = p) ∧ Hid (wr.ownsRow w1.heap.size 3 1 v p (zv o)) ∧ Hid (Below w1.heap.size w1 wr)) (fun _ _ iv _ => ls.length - (intOf iv).toNat)
        case atStart => exact ⟨0, m, fs, by omega, rfl, rfl, rfl, HR.out, Hsk.out, Hfm.out, Hown.out, Hb3.out⟩
        case round =>
          obtain ⟨k, p, o, hk, rfl, rfl, Hp, HRo, Hso, Hol, Hv, Hb⟩ := hrel
          by_cases hkk : k < ls.length
          · obtain ⟨b, ob, rfl, hc⟩ := (Hrl.out.below (bnext Hb1.out Hb.out)) k (.int .i64 ls[k]) (by simp [zv, hkk])
            obtain ⟨A1, c1, rfl, hpc, hc63, hro, -⟩ := own_rd4 Hv.out
            have Hro := Lib.hid hro
            have htb := toldN_bd cs o sn Hcs.out (by rw [Hm.out]; exact hm32) Hso.out
            have HRn : Hid (rst cs sn o (ls.drop k) = if outS (ls[k] + toldN cs sn o) = true then none else rst cs sn (o ++ [ls[k] + toldN cs sn o]) (ls.drop (k + 1))) := by
              show _ = _
              rw [List.drop_eq_getElem_cons hkk]; rfl
            have Hsn : Hid (outS (ls[k] + toldN cs sn o) = false → okS (o ++ [ls[k] + toldN cs sn o])) := fun h => okS_snoc Hso.out h
            have HT : Hid (∀ W : World, Below w1.heap.size w1 W → Rd W A1 (zv o) → Calls Tryd.prog 22 #[.agg #[.int .i64 pr, .int .i64 sn, .slice Ac m cc], .slice A1 p c1] W fun e w' => e = .returned (.int .i64 (toldN cs sn o)) ∧ Below W.heap.size W w') := by
              intro W hW hr
              have h := told_any pr sn hsn cs o Hcs.out (by rw [Hm.out]; exact hm32) Hso.out (by rw [Hm.out, Hol.out, ← Hp.out]; omega) (by rw [Hol.out, ← Hp.out]; omega) Ac A1 cc c1 (by rw [Hol.out]; omega) hc63 W (Hrc.out.below (bnext Hb1.out hW)) hr
              rw [Hol.out, Hm.out] at h
              exact h
            obtain ⟨x0, x1, x2⟩ := HQ.out _ Hb.out
            have hp9 : p ≤ 1000000 := by rw [← Hp.out]; omega
            clear hro
            generalize ls[k] = x at *
            generalize toldN cs sn o = y at *
            have hwy1 : IntKind.i64.wrap (-4294967296 - y) = -4294967296 - y := by rw [IntKind.wrap_i64]; omega
            have hwy2 : IntKind.i64.wrap (4294967296 - y) = 4294967296 - y := by rw [IntKind.wrap_i64]; omega
            go_wp2_with fail
            refine (HT.out _ Hb.out Hro.out).mono ?_
            rintro e w4 ⟨rfl, hb4⟩
            have Hb5 := Lib.hid (bnext Hb.out hb4)
            have Hv5 := Lib.hid (ownsRow_below Hv.out hb4)
            clear HT Hv hb4 x0 x1 x2 hc Hro
            by_cases q1 : x < -4294967296 - y
            · have HE1 : Hid (E = 10) := by
                show _ = _
                have h : outS (x + y) = true := by simp [outS]; omega
                rw [HE3.out, ← HRo.out, HRn.out, if_pos h]; rfl
              have HL1 : Hid (L = []) := by show _ = _; rw [HL.out, HE1.out]; rfl
              have hbe := bnext Hb1.out Hb5.out
              go_wp2_with fail
              try rw [Exit.noGoto_ret]
              go_ret2
              exact ⟨_, by rw [HE1.out]; rfl, by rw [HL1.out]; exact World.ownsRow_nil _ _ _ 1, hbe⟩
            · by_cases q2 : x ≥ 4294967296 - y
              · have HE1 : Hid (E = 10) := by
                  show _ = _
                  have h : outS (x + y) = true := by simp [outS]; omega
                  rw [HE3.out, ← HRo.out, HRn.out, if_pos h]; rfl
                have HL1 : Hid (L = []) := by show _ = _; rw [HL.out, HE1.out]; rfl
                have hbe := bnext Hb1.out Hb5.out
                go_wp2_with fail
                try rw [Exit.noGoto_ret]
                go_ret2
                exact ⟨_, by rw [HE1.out]; rfl, by rw [HL1.out]; exact World.ownsRow_nil _ _ _ 1, hbe⟩
              · have h : outS (x + y) = false := by simp [outS]; omega
                have HRo2 : Hid (rst cs sn (o ++ [x + y]) (ls.drop (k + 1)) = R) := by
                  show _ = _
                  rw [← HRo.out, HRn.out, if_neg (by rw [h]; decide)]
                have Hsn2 := Lib.hid (Hsn.out h)
                have hwx : IntKind.i64.wrap (x + y) = x + y := by rw [IntKind.wrap_i64]; omega
                have hs5 := Hb5.out.size
                clear h Hsn HRn
                go_wp2_with (at_builtin; refine app1 (w0 := w1) rfl _ _ 22 rfl Tryd.underlying22 info_int rfl (by decide) rfl Hv5.out (Nat.le_refl _) hs5 Hb5.out rfl rfl (one_int _ _) (by omega) (by unfold maxLen; omega) ?_; intro v1 w6 own1 hb6 hs6; have Hown1 := Lib.hid own1; have Hb6 := Lib.hid hb6; clear own1 hb6)
                go_roundw
                case rel => exact ⟨k + 1, p + 1, o ++ [x + y], by omega, by go_num, rfl, by show _ = _; rw [← Hp.out]; rfl, HRo2.out, Hsn2.out, by show _ = _; rw [List.length_append, Hol.out]; rfl, by rw [zv_snoc]; exact Hown1.out, Hb6.out⟩
                case measure => simp [intOf] <;> omega
          · obtain rfl : k = ls.length := by omega
            have HRs : Hid (R = some o) := by
              show _ = _
              rw [← HRo.out, List.drop_length]; rfl
            have HE1 : Hid (E = 0) := by show _ = _; rw [HE3.out, HRs.out]; rfl
            have HL1 : Hid (L = o) := by show _ = _; rw [HL.out, HE1.out, HRs.out]; rfl
            have hbe := bnext Hb1.out Hb.out
            have hle := Hb1.out.size
            go_wp2_with fail
            try rw [Exit.noGoto_ret]
            go_ret2
            exact ⟨_, by rw [HE1.out]; rfl, by rw [← HH.out, HL1.out, Hol.out]; exact ownsRow_less Hv.out hle, hbe⟩
    · have HE1 : Hid (E = 1) := by show _ = _; rw [HE.out, hok, if_neg (by decide), if_neg hlt]
      have HL1 : Hid (L = []) := by show _ = _; rw [HL.out, HE1.out]; rfl
      clear hok HE HL hcs
      generalize cs.length = m at *
      generalize fs.length = n at *
      go_enter Tryd.func19, Tryd.ntmps19
      go_wp2_with fail
      go_step3
      go_wp2_with fail
      refine (HC.out _ (by repeat (first | exact Below.refl _ _ | assumption | refine below_drewN ?_ _ | refine Below.drew ?_ | refine Below.alloc ?_ (Nat.le_refl _) _ | refine bal ?_ _ | refine bnext ?_ (by assumption)))).mono ?_
      rintro e w1 ⟨rfl, hb1⟩
      have hq2 : w1.cell? ⟨w.heap.size, 2, none⟩ = some (.slice Ac m cc) := (hb1.cell (p := ⟨w.heap.size, 2, none⟩) (by simp)).trans (by go_simp)
      have hb2 : Below w.heap.size w w1 := by repeat (first | exact Below.refl _ _ | assumption | refine below_drewN ?_ _ | refine Below.drew ?_ | refine Below.alloc ?_ (Nat.le_refl _) _ | refine bal ?_ _ | refine bnext ?_ (by assumption))
      simp only [chkP]
      go_wp2_with fail
      try rw [Exit.noGoto_ret]
      go_ret2
      exact ⟨_, by rw [HE1.out]; rfl, by rw [HL1.out]; exact World.ownsRow_nil _ _ _ 1, hb2⟩
end Go.Proofs.YtghnjgemjiekgaaDoor
