/-
  jetsamlaw06.PredictRestores: its walk.
-/
import Derived.Test.YtghnjgemjiekgaaDoorRRest06
import Derived.Test.YtghnjgemjiekgaaDoorAwake06
namespace Go.Proofs.YtghnjgemjiekgaaDoor
open Go.RowKit

set_option maxRecDepth 100000 in
set_option maxHeartbeats 2000000 in
theorem predictRestores_walk (pr sh : Int) (cs fs ls : List Int) (Ac F A : Option Addr) (cc cf c : Nat) (w : World) (hF : FixAt w) (hrc : Rd w Ac (zv cs)) (hrf : Rd w F (zv fs)) (hrl : Rd w A (zv ls)) (hfn : F = none → fs.length = 0 ∧ cf = 0) :
    Calls Tryd.prog 6 #[.agg #[.int .i64 pr, .int .i64 sh, .slice Ac cs.length cc], .slice F fs.length cf, .slice A ls.length c] w fun e w' => e = .returned (.bool true) ∧ Below w.heap.size w w' := by
  have HF := Lib.hid hF; clear hF
  by_cases h40 : 40 < cs.length
  · clear hrc hrl hrf hfn
    generalize cs.length = m at *
    go_enter Tryd.func6, Tryd.ntmps6
    go_wp2_with fail
    refine (awake_any _ (HF.out.below (by repeat (first | exact Below.refl _ _ | assumption | refine below_drewN ?_ _ | refine Below.drew ?_ | refine Below.alloc ?_ (Nat.le_refl _) _ | refine bal ?_ _ | refine bnext ?_ (by assumption))))).mono ?_
    rintro e w1 ⟨rfl, hb1⟩
    go_wp2_with fail
    go_ret
    exact ⟨rfl, by repeat (first | exact Below.refl _ _ | assumption | refine below_drewN ?_ _ | refine Below.drew ?_ | refine Below.alloc ?_ (Nat.le_refl _) _ | refine bal ?_ _ | refine bnext ?_ (by assumption))⟩
  by_cases h41 : 40 < fs.length
  · clear hrc hrl hrf hfn
    generalize cs.length = m at *
    generalize fs.length = m2 at *
    go_enter Tryd.func6, Tryd.ntmps6
    go_wp2_with fail
    refine (awake_any _ (HF.out.below (by repeat (first | exact Below.refl _ _ | assumption | refine below_drewN ?_ _ | refine Below.drew ?_ | refine Below.alloc ?_ (Nat.le_refl _) _ | refine bal ?_ _ | refine bnext ?_ (by assumption))))).mono ?_
    rintro e w1 ⟨rfl, hb1⟩
    go_wp2_with fail
    go_ret
    exact ⟨rfl, by repeat (first | exact Below.refl _ _ | assumption | refine below_drewN ?_ _ | refine Below.drew ?_ | refine Below.alloc ?_ (Nat.le_refl _) _ | refine bal ?_ _ | refine bnext ?_ (by assumption))⟩
  by_cases h100 : 100 < ls.length
  · clear hrc hrl hrf hfn
    generalize cs.length = m at *
    generalize fs.length = m2 at *
    generalize ls.length = n at *
    go_enter Tryd.func6, Tryd.ntmps6
    go_wp2_with fail
    refine (awake_any _ (HF.out.below (by repeat (first | exact Below.refl _ _ | assumption | refine below_drewN ?_ _ | refine Below.drew ?_ | refine Below.alloc ?_ (Nat.le_refl _) _ | refine bal ?_ _ | refine bnext ?_ (by assumption))))).mono ?_
    rintro e w1 ⟨rfl, hb1⟩
    go_wp2_with fail
    go_ret
    exact ⟨rfl, by repeat (first | exact Below.refl _ _ | assumption | refine below_drewN ?_ _ | refine Below.drew ?_ | refine Below.alloc ?_ (Nat.le_refl _) _ | refine bal ?_ _ | refine bnext ?_ (by assumption))⟩
  have HR := Lib.hid (fun W (hW : Below w.heap.size w W) => Restore_any pr sh cs fs ls Ac F A cc cf c W (hrc.below hW) (hrf.below hW) (hrl.below hW) (by omega) (by omega) (by omega) hfn)
  have HRR := Lib.hid (fun W (hW : Below w.heap.size w W) => RRestore_any pr sh cs fs ls Ac F A cc cf c W (hrc.below hW) (hrf.below hW) (hrl.below hW) (by omega) (by omega) (by omega))
  have HLl : Hid ((rsL pr sh cs fs ls).length ≤ 1000) := by
    show _ ≤ _
    have hk := rsL_length pr sh cs fs ls
    omega
  generalize rsE pr sh cs fs ls = E at *
  generalize rsL pr sh cs fs ls = L at *
  clear hrc hrl hrf hfn
  generalize cs.length = m at *
  generalize fs.length = m2 at *
  generalize ls.length = n at *
  go_enter Tryd.func6, Tryd.ntmps6
  go_wp2_with fail
  have hb0 : Below w.heap.size w (w.alloc (.cells #[.int .i64 pr, .int .i64 sh, .slice Ac m cc] 24)) := by repeat (first | exact Below.refl _ _ | assumption | refine below_drewN ?_ _ | refine Below.drew ?_ | refine Below.alloc ?_ (Nat.le_refl _) _ | refine bal ?_ _ | refine bnext ?_ (by assumption))
  refine (HR.out _ hb0).mono ?_
  rintro e w1 ⟨v1, rfl, Hown1, hb1⟩
  obtain ⟨A1, c1, rfl, hc1, hr1⟩ := own_rd Hown1.out
  have hp0 : w1.cell? ⟨w.heap.size, 0, none⟩ = some (.int .i64 pr) := (hb1.cell (p := ⟨w.heap.size, 0, none⟩) (by simp)).trans (by go_simp)
  have hp1 : w1.cell? ⟨w.heap.size, 1, none⟩ = some (.int .i64 sh) := (hb1.cell (p := ⟨w.heap.size, 1, none⟩) (by simp)).trans (by go_simp)
  have hp2 : w1.cell? ⟨w.heap.size, 2, none⟩ = some (.slice Ac m cc) := (hb1.cell (p := ⟨w.heap.size, 2, none⟩) (by simp)).trans (by go_simp)
  have Hr1 := Lib.hid hr1
  have hb2 := bnext hb0 hb1
  clear hr1 Hown1 hb1 hb0 HR
  go_wp2_with fail
  clear hp0 hp1 hp2
  refine (Plain_any pr sh Ac m cc _).mono ?_
  rintro e w2 ⟨rfl, hb3⟩
  have hb4 := bnext hb2 hb3
  go_wp2_with fail
  refine (HRR.out _ hb4).mono ?_
  rintro e w3 ⟨v3, rfl, Hown3, hb5⟩
  obtain ⟨A3, c3, rfl, hc3, hr3⟩ := own_rd Hown3.out
  have hb13 : Below w1.heap.size w1 w3 := bnext hb3 hb5
  have hb6 := bnext hb4 hb5
  have hI := ints_any L L A1 A3 c1 c3 w3 (Hr1.out.below hb13) hr3 (by have := HLl.out; omega)
  rw [decide_eq_true rfl] at hI
  have HI := Lib.hid hI
  clear hr3 Hown3 hb5 hb4 hb3 hb2 HRR hb13 hI Hr1
  go_wp2_with fail
  refine HI.out.mono ?_
  rintro e w4 ⟨rfl, hb7⟩
  have hb8 := bnext hb6 hb7
  have hEE : (E == E) = true := by simp
  clear HI
  go_wp2_with fail
  refine (awake_any _ (HF.out.below hb8)).mono ?_
  rintro e w5 ⟨rfl, hb9⟩
  have hend := bnext hb8 hb9
  go_wp2_with fail
  go_ret
  exact ⟨rfl, hend⟩
end Go.Proofs.YtghnjgemjiekgaaDoor
