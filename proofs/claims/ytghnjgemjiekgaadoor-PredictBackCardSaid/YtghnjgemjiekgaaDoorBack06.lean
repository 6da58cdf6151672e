/-
  jetsamlaw06.PredictBack: its walk.
-/
import Derived.Test.YtghnjgemjiekgaaDoorBackLaw06
import Derived.Test.YtghnjgemjiekgaaDoorAwake06
namespace Go.Proofs.YtghnjgemjiekgaaDoor
open Go.RowKit

set_option maxRecDepth 100000 in
set_option maxHeartbeats 2000000 in
theorem predictBack_walk (pr sh : Int) (cs ls ms : List Int) (Ac A B : Option Addr) (cc c cb : Nat) (w : World) (hF : FixAt w) (hrc : Rd w Ac (zv cs)) (hrl : Rd w A (zv ls)) (hrm : Rd w B (zv ms)) (hcap : ls.length ≤ c) (hcap63 : c ≤ 9223372036854775807) (hn : A = none → ls.length = 0 ∧ c = 0) :
    Calls Tryd.prog 7 #[.agg #[.int .i64 pr, .int .i64 sh, .slice Ac cs.length cc], .slice A ls.length c, .slice B ms.length cb] w fun e w' => e = .returned (.bool true) ∧ Below w.heap.size w w' := by
  have HF := Lib.hid hF; clear hF
  by_cases h40 : 40 < cs.length
  · clear hrc hrl hrm hn
    generalize cs.length = m at *
    go_enter Tryd.func7, Tryd.ntmps7
    go_wp2_with fail
    refine (awake_any _ (HF.out.below (by repeat (first | exact Below.refl _ _ | assumption | refine below_drewN ?_ _ | refine Below.drew ?_ | refine Below.alloc ?_ (Nat.le_refl _) _ | refine bal ?_ _ | refine bnext ?_ (by assumption))))).mono ?_
    rintro e w1 ⟨rfl, hb1⟩
    go_wp2_with fail
    go_ret
    exact ⟨rfl, by repeat (first | exact Below.refl _ _ | assumption | refine below_drewN ?_ _ | refine Below.drew ?_ | refine Below.alloc ?_ (Nat.le_refl _) _ | refine bal ?_ _ | refine bnext ?_ (by assumption))⟩
  by_cases h41 : 100 < ls.length
  · clear hrc hrl hrm hn
    generalize cs.length = m at *
    generalize ls.length = m2 at *
    go_enter Tryd.func7, Tryd.ntmps7
    go_wp2_with fail
    refine (awake_any _ (HF.out.below (by repeat (first | exact Below.refl _ _ | assumption | refine below_drewN ?_ _ | refine Below.drew ?_ | refine Below.alloc ?_ (Nat.le_refl _) _ | refine bal ?_ _ | refine bnext ?_ (by assumption))))).mono ?_
    rintro e w1 ⟨rfl, hb1⟩
    go_wp2_with fail
    go_ret
    exact ⟨rfl, by repeat (first | exact Below.refl _ _ | assumption | refine below_drewN ?_ _ | refine Below.drew ?_ | refine Below.alloc ?_ (Nat.le_refl _) _ | refine bal ?_ _ | refine bnext ?_ (by assumption))⟩
  by_cases h100 : 100 < ms.length
  · clear hrc hrl hrm hn
    generalize cs.length = m at *
    generalize ls.length = m2 at *
    generalize ms.length = n at *
    go_enter Tryd.func7, Tryd.ntmps7
    go_wp2_with fail
    refine (awake_any _ (HF.out.below (by repeat (first | exact Below.refl _ _ | assumption | refine below_drewN ?_ _ | refine Below.drew ?_ | refine Below.alloc ?_ (Nat.le_refl _) _ | refine bal ?_ _ | refine bnext ?_ (by assumption))))).mono ?_
    rintro e w1 ⟨rfl, hb1⟩
    go_wp2_with fail
    go_ret
    exact ⟨rfl, by repeat (first | exact Below.refl _ _ | assumption | refine below_drewN ?_ _ | refine Below.drew ?_ | refine Below.alloc ?_ (Nat.le_refl _) _ | refine bal ?_ _ | refine bnext ?_ (by assumption))⟩
  have HR := Lib.hid (fun W (hW : Below w.heap.size w W) => Residual_all pr sh cs ls Ac A cc c W (hrc.below hW) (hrl.below hW) (by omega) (by omega) hcap hcap63)
  have Hrl := Lib.hid hrl
  have Hrc := Lib.hid hrc
  have Hrm := Lib.hid hrm
  by_cases hE : resE pr sh cs ls = 0
  · obtain ⟨hok, hml, hs, hfl, q1, q2⟩ := back_law pr sh cs ls hE
    obtain ⟨g1, g2⟩ := fwd_law pr sh cs (ls.take cs.length) ms hok hfl
    have hDl : (resL pr sh cs ls).length ≤ 900000 := by
      rw [show resL pr sh cs ls = resN cs sh.toNat ls from if_pos hE, resN_length]
      omega
    have HR1 := Lib.hid (fun (W : World) (D : Option Addr) (d : Nat) (hW : Below w.heap.size w W) (hD : Rd W D (zv (resL pr sh cs ls))) => Restore_any pr sh cs (ls.take cs.length) (resL pr sh cs ls) Ac A D cc c d W (hrc.below hW) (by rw [zv_take]; exact (hrl.below hW).take _) hD (by omega) (by omega) hDl (fun e => by have := hn e; omega))
    have HR2 := Lib.hid (fun (W : World) (hW : Below w.heap.size w W) => Restore_any pr sh cs (ls.take cs.length) ms Ac A B cc c cb W (hrc.below hW) (by rw [zv_take]; exact (hrl.below hW).take _) (hrm.below hW) (by omega) (by omega) (by omega) (fun e => by have := hn e; omega))
    rw [q1, q2, hfl] at HR1
    rw [hE] at HR
    rw [hfl] at HR2
    have Hml : Hid ((rsL pr sh cs (ls.take cs.length) ms).length ≤ 200) := by
      show _ ≤ _
      have := rsL_length pr sh cs (ls.take cs.length) ms
      omega
    have HR3 := Lib.hid (fun (W : World) (D : Option Addr) (d : Nat) (hW : Below w.heap.size w W) (hD : Rd W D (zv (rsL pr sh cs (ls.take cs.length) ms))) (hd : (rsL pr sh cs (ls.take cs.length) ms).length ≤ d) (hd63 : d ≤ 9223372036854775807) => Residual_all pr sh cs (rsL pr sh cs (ls.take cs.length) ms) Ac D cc d W (hrc.below hW) hD (by omega) (by have := Hml.out; omega) hd hd63)
    have HI1 := Lib.hid (fun (W : World) (D : Option Addr) (d : Nat) (hW : Below w.heap.size w W) (hD : Rd W D (zv ls)) => ints_any ls ls D A d c W hD (hrl.below hW) (by omega))
    have HI2 := Lib.hid (fun (W : World) (D : Option Addr) (d : Nat) (hW : Below w.heap.size w W) (hD : Rd W D (zv ms)) => ints_any ms ms D B d cb W hD (hrm.below hW) (by omega))
    have HI3 := Lib.hid (fun (W : World) (D : Option Addr) (d : Nat) (hW : Below w.heap.size w W) (hD : Rd W D (zv (ls.take cs.length))) => ints_any (ls.take cs.length) (ls.take cs.length) D A d c W hD (by rw [zv_take]; exact (hrl.below hW).take _) (by omega))
    rw [hfl] at HI3
    simp only [decide_true] at HI1 HI2 HI3
    have Hg1 := Lib.hid g1
    have Hg2 := Lib.hid g2
    clear hDl q1 q2 g1 g2 hok hs hfl hrc hrl hrm hE hn
    generalize rsE pr sh cs (ls.take cs.length) ms = E2 at *
    generalize rsL pr sh cs (ls.take cs.length) ms = Y at *
    generalize hfs : ls.take cs.length = fs at *
    have Hfs := Lib.hid hfs
    clear hfs
    generalize resL pr sh cs ls = D at *
    generalize ls.length = n at *
    obtain ⟨m, hm⟩ : ∃ m, cs.length = m := ⟨_, rfl⟩
    rw [hm] at hml h40 HR HR1 HR2 HR3 HI3 Hg2 ⊢
    have Hm := Lib.hid hm
    clear hm
    obtain ⟨k, hk⟩ : ∃ k, ms.length = k := ⟨_, rfl⟩
    rw [hk] at h100 HR2 HI2 Hg2 ⊢
    have Hk := Lib.hid hk
    clear hk
    have hmc : m ≤ c := by omega
    have hmci : (m : Int) ≤ c := by omega
    go_enter Tryd.func7, Tryd.ntmps7
    go_wp2_with fail
    have hb0 : Below w.heap.size w (w.alloc (.cells #[.int .i64 pr, .int .i64 sh, .slice Ac m cc] 24)) := by repeat (first | exact Below.refl _ _ | assumption | refine below_drewN ?_ _ | refine Below.drew ?_ | refine Below.alloc ?_ (Nat.le_refl _) _ | refine bal ?_ _ | refine bnext ?_ (by assumption))
    refine (HR.out _ hb0).mono ?_
    rintro e w1 ⟨v1, rfl, Hown1, hb1⟩
    obtain ⟨A1, c1, rfl, hc1, hr1⟩ := own_rd Hown1.out
    have hp0 : w1.cell? ⟨w.heap.size, 0, none⟩ = some (.int .i64 pr) := (hb1.cell (p := ⟨w.heap.size, 0, none⟩) (by simp)).trans (by go_simp)
    have hp1 : w1.cell? ⟨w.heap.size, 1, none⟩ = some (.int .i64 sh) := (hb1.cell (p := ⟨w.heap.size, 1, none⟩) (by simp)).trans (by go_simp)
    have hp2 : w1.cell? ⟨w.heap.size, 2, none⟩ = some (.slice Ac m cc) := (hb1.cell (p := ⟨w.heap.size, 2, none⟩) (by simp)).trans (by go_simp)
    have Hr1 := Lib.hid hr1
    have hb2 := bnext hb0 hb1
    have QP : Hid (∀ W, Below w1.heap.size w1 W → W.cell? ⟨w.heap.size, 0, none⟩ = some (.int .i64 pr) ∧ W.cell? ⟨w.heap.size, 1, none⟩ = some (.int .i64 sh) ∧ W.cell? ⟨w.heap.size, 2, none⟩ = some (.slice Ac m cc)) := fun W hW1 => ⟨(hW1.cell (p := ⟨w.heap.size, 0, none⟩) (cell_lt hp0)).trans hp0, (hW1.cell (p := ⟨w.heap.size, 1, none⟩) (cell_lt hp1)).trans hp1, (hW1.cell (p := ⟨w.heap.size, 2, none⟩) (cell_lt hp2)).trans hp2⟩
    clear hr1 Hown1 hb1 hb0 HR
    go_wp2_with fail
    clear hp0 hp1 hp2
    refine (HR1.out _ _ _ hb2 Hr1.out).mono ?_
    rintro e w2 ⟨v2, rfl, Hown2, hb3⟩
    obtain ⟨A2, c2, rfl, hc2, hr2⟩ := own_rd Hown2.out
    have hb4 := bnext hb2 hb3
    have hI1 := Lib.hid (HI1.out _ _ c2 hb4 hr2)
    clear hr2 Hown2 HR1 HI1
    go_wp2_with fail
    refine hI1.out.mono ?_
    rintro e w3 ⟨rfl, hb5⟩
    have hb13 := bnext hb3 hb5
    have hb6 := bnext hb4 hb5
    obtain ⟨x0, x1, x2⟩ := QP.out _ hb13
    clear hI1 hb3 hb5 hb4
    go_wp2_with fail
    refine (HR2.out _ hb6).mono ?_
    rintro e w4 ⟨v4, rfl, Hown4, hb7⟩
    obtain ⟨A4, c4, rfl, hc4, hc63, hr4, -⟩ := own_rd4 Hown4.out
    have Hr4 := Lib.hid hr4
    have hb14 := bnext hb13 hb7
    have hb8 := bnext hb6 hb7
    clear hr4 Hown4 HR2 x0 x1 x2
    by_cases hE2 : E2 = 0
    · obtain ⟨u1, u2, u3, u4⟩ := Hg2.out hE2
      subst hE2
      rw [u1, u2, Hk.out] at HR3
      rw [u4] at HR3 hc4
      have Hu3 := Lib.hid u3
      obtain ⟨x0, x1, x2⟩ := QP.out _ hb14
      rw [u4]
      clear u1 u2 u3 u4 Hg1 Hg2
      obtain ⟨y, hy⟩ : ∃ y, m + k = y := ⟨_, rfl⟩
      rw [hy] at HR3 hc4 ⊢
      have hyc : m ≤ c4 := by omega
      have hyci : (m : Int) ≤ c4 := by omega
      clear hy
      go_wp2_with fail
      refine (HR3.out _ _ _ hb8 Hr4.out hc4 hc63).mono ?_
      rintro e w5 ⟨v5, rfl, Hown5, hb9⟩
      obtain ⟨A5, c5, rfl, hc5, hr5⟩ := own_rd Hown5.out
      have hb10 := bnext hb8 hb9
      have hI2 := Lib.hid (HI2.out _ _ c5 hb10 hr5)
      clear hr5 Hown5 HI2 HR3 x0 x1 x2
      go_wp2_with fail
      refine hI2.out.mono ?_
      rintro e w6 ⟨rfl, hb11⟩
      have hb12 := bnext hb10 hb11
      have hr6 : Rd w6 A4 (zv fs) := by
        have h := ((Hr4.out.below hb9).below hb11).take m
        rw [← zv_take, Hu3.out] at h
        exact h
      have hI3 := Lib.hid (HI3.out _ _ c4 hb12 hr6)
      clear hI2 hr6 HI3
      go_wp2_with fail
      refine hI3.out.mono ?_
      rintro e w7 ⟨rfl, hb15⟩
      have hb16 := bnext hb12 hb15
      go_wp2_with fail
      refine (awake_any _ (HF.out.below hb16)).mono ?_
      rintro e w8 ⟨rfl, hb17⟩
      have hend := bnext hb16 hb17
      go_wp2_with fail
      go_ret
      exact ⟨rfl, hend⟩
    · obtain ⟨rfl, rfl⟩ := Hg1.out hE2
      clear Hg1 Hg2 HR3 HI2 HI3
      go_wp2_with fail
      refine (awake_any _ (HF.out.below hb8)).mono ?_
      rintro e w8 ⟨rfl, hb17⟩
      have hend := bnext hb8 hb17
      go_wp2_with fail
      go_ret
      exact ⟨rfl, hend⟩
  · have e : resL pr sh cs ls = [] := if_neg hE
    rw [e] at HR
    have hEE : (resE pr sh cs ls != 0) = true := by rw [bne_iff_ne]; exact hE
    clear e hE hrc hrl hrm hn Hrl Hrc Hrm
    generalize resE pr sh cs ls = E at *
    generalize cs.length = m at *
    generalize ls.length = n at *
    generalize ms.length = k at *
    go_enter Tryd.func7, Tryd.ntmps7
    go_wp2_with fail
    have hb0 : Below w.heap.size w (w.alloc (.cells #[.int .i64 pr, .int .i64 sh, .slice Ac m cc] 24)) := by repeat (first | exact Below.refl _ _ | assumption | refine below_drewN ?_ _ | refine Below.drew ?_ | refine Below.alloc ?_ (Nat.le_refl _) _ | refine bal ?_ _ | refine bnext ?_ (by assumption))
    refine (HR.out _ hb0).mono ?_
    rintro e w1 ⟨v1, rfl, Hown1, hb1⟩
    obtain ⟨A1, c1, rfl, hc1, -⟩ := own_rd Hown1.out
    have hb2 := bnext hb0 hb1
    clear Hown1
    go_wp2_with fail
    refine (awake_any _ (HF.out.below hb2)).mono ?_
    rintro e w2 ⟨rfl, hb3⟩
    have hend := bnext hb2 hb3
    go_wp2_with fail
    go_ret
    exact ⟨rfl, hend⟩
end Go.Proofs.YtghnjgemjiekgaaDoor
