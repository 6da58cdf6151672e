/-
  jetsamlaw06.PredictFixed: its walk.
-/
import Derived.Test.YtghnjgemjiekgaaDoorRBest06
import Derived.Test.YtghnjgemjiekgaaDoorAwake06
namespace Go.Proofs.YtghnjgemjiekgaaDoor
open Go.RowKit

set_option maxRecDepth 100000 in
set_option maxHeartbeats 2000000 in
theorem predictFixed_walk (od : Int) (ls : List Int) (A : Option Addr) (c : Nat) (w : World) (hF : FixAt w) (hrl : Rd w A (zv ls)) (hcap : ls.length ≤ c) (hcap63 : c ≤ 9223372036854775807) (hn : A = none → c = 0) :
    Calls Tryd.prog 4 #[.int .i64 od, .slice A ls.length c] w fun e w' => e = .returned (.bool true) ∧ Below w.heap.size w w' := by
  have HF := Lib.hid hF; clear hF
  by_cases h41 : 100 < ls.length
  · clear hrl hn
    generalize ls.length = m2 at *
    go_enter Tryd.func4, Tryd.ntmps4
    go_wp2_with fail
    refine (awake_any _ (HF.out.below (by repeat (first | exact Below.refl _ _ | assumption | refine below_drewN ?_ _ | refine Below.drew ?_ | refine Below.alloc ?_ (Nat.le_refl _) _ | refine bal ?_ _ | refine bnext ?_ (by assumption))))).mono ?_
    rintro e w1 ⟨rfl, hb1⟩
    go_wp2_with fail
    go_ret
    exact ⟨rfl, by repeat (first | exact Below.refl _ _ | assumption | refine below_drewN ?_ _ | refine Below.drew ?_ | refine Below.alloc ?_ (Nat.le_refl _) _ | refine bal ?_ _ | refine bnext ?_ (by assumption))⟩
  have HBe := Lib.hid (fun W (hW : Below w.heap.size w W) => Best_any ls A c W (HF.out.below hW) (hrl.below hW) (by omega) hcap hcap63)
  have HRB := Lib.hid (fun W (hW : Below w.heap.size w W) => RBest_any ls A c W (hrl.below hW) (by omega) hn)
  have Hrl := Lib.hid hrl
  have Hn := Lib.hid hn
  clear hrl hn
  generalize bestV ls = bv at *
  have hbv : ((bv : Int) != bv) = false := by simp
  by_cases hod : od < 0 ∨ 4 < od
  · have HFx := Lib.hid (fun W => Fixed_no od hod W)
    generalize ls.length = n at *
    by_cases hod0 : od < 0
    · go_enter Tryd.func4, Tryd.ntmps4
      go_wp2_with fail
      refine (HFx.out _).mono ?_
      rintro e w1 ⟨rfl, hb1⟩
      have hb2 : Below w.heap.size w (w1.alloc (.cells #[.int .i64 0, .int .i64 0, .slice none 0 0] 24)) := bal hb1 _
      clear HFx hod
      go_wp2_with fail
      refine (HBe.out _ hb2).mono ?_
      rintro e w2 ⟨rfl, hb3⟩
      have hb4 := bnext hb2 hb3
      go_wp2_with fail
      refine (HRB.out _ hb4).mono ?_
      rintro e w3 ⟨rfl, hb5⟩
      have hb6 := bnext hb4 hb5
      have hb13 := bnext hb3 hb5
      have hp2 : w3.cell? ⟨w1.heap.size, 2, none⟩ = some (.slice none 0 0) := (hb13.cell (p := ⟨w1.heap.size, 2, none⟩) (by simp)).trans (by go_simp)
      clear HBe HRB hb13
      go_wp2_with fail
      refine (awake_any _ (HF.out.below hb6)).mono ?_
      rintro e w4 ⟨rfl, hb7⟩
      have hend := bnext hb6 hb7
      go_wp2_with fail
      go_ret
      exact ⟨rfl, hend⟩
    · have hod4 : 4 < od := by omega
      go_enter Tryd.func4, Tryd.ntmps4
      go_wp2_with fail
      refine (HFx.out _).mono ?_
      rintro e w1 ⟨rfl, hb1⟩
      have hb2 : Below w.heap.size w (w1.alloc (.cells #[.int .i64 0, .int .i64 0, .slice none 0 0] 24)) := bal hb1 _
      clear HFx hod
      go_wp2_with fail
      refine (HBe.out _ hb2).mono ?_
      rintro e w2 ⟨rfl, hb3⟩
      have hb4 := bnext hb2 hb3
      go_wp2_with fail
      refine (HRB.out _ hb4).mono ?_
      rintro e w3 ⟨rfl, hb5⟩
      have hb6 := bnext hb4 hb5
      have hb13 := bnext hb3 hb5
      have hp2 : w3.cell? ⟨w1.heap.size, 2, none⟩ = some (.slice none 0 0) := (hb13.cell (p := ⟨w1.heap.size, 2, none⟩) (by simp)).trans (by go_simp)
      clear HBe HRB hb13
      go_wp2_with fail
      refine (awake_any _ (HF.out.below hb6)).mono ?_
      rintro e w4 ⟨rfl, hb7⟩
      have hend := bnext hb6 hb7
      go_wp2_with fail
      go_ret
      exact ⟨rfl, hend⟩
  · obtain ⟨k, rfl⟩ : ∃ k : Nat, od = k := ⟨od.toNat, by omega⟩
    have hk : k < 5 := by omega
    obtain ⟨hok, hfl⟩ := fixC_ok k hk
    have HFx := Lib.hid (Fixed_ok k hk w HF.out)
    have HR := Lib.hid (fun (W : World) (D : Option Addr) (d : Nat) (hW : Below w.heap.size w W) (hD : Rd W D (zv (fixC k))) => Residual_all 4 0 (fixC k) ls D A d c W hD (Hrl.out.below hW) (by omega) (by omega) hcap hcap63)
    rw [hfl] at HR
    have hk4 : ¬ (4 : Int) < k := by omega
    have hk0 : ¬ (k : Int) < 0 := by omega
    have hkk : ((k : Int) != k) = false := by simp
    by_cases hE : resE 4 0 (fixC k) ls = 0
    · have eL : resL 4 0 (fixC k) ls = difN k ls := by rw [dif_law k hk]; exact if_pos hE
      have hs : okS ls := by
        refine okS_of ls ?_
        cases h : ls.any outS with
        | false => rfl
        | true =>
          rw [resE, if_neg (by rw [hok]; decide)] at hE
          split at hE
          · exact absurd hE (by decide)
          · exact absurd hE (by decide)
      have HDf := Lib.hid (fun (W : World) (hW : Below w.heap.size w W) => Differ_any k hk ls A c W (Hrl.out.below hW) hs (by omega) Hn.out)
      have hDl : Hid ((difN k ls).length ≤ 1000) := by show _ ≤ _; rw [difN_length]; omega
      rw [hE, eL] at HR
      clear hE eL hs hok hfl hod hk
      generalize difN k ls = D at *
      generalize ls.length = n at *
      go_enter Tryd.func4, Tryd.ntmps4
      go_wp2_with fail
      refine HFx.out.mono ?_
      rintro e w1 ⟨A1, c1, rfl, hc1, hr1, hb1⟩
      have hb2 : Below w.heap.size w (w1.alloc (.cells #[.int .i64 4, .int .i64 0, .slice A1 k c1] 24)) := bal hb1 _
      have Hr1 := Lib.hid (hr1.alloc (.cells #[.int .i64 4, .int .i64 0, .slice A1 k c1] 24))
      clear HFx hr1
      go_wp2_with fail
      refine (HBe.out _ hb2).mono ?_
      rintro e w2 ⟨rfl, hb3⟩
      have hb4 := bnext hb2 hb3
      go_wp2_with fail
      refine (HRB.out _ hb4).mono ?_
      rintro e w3 ⟨rfl, hb5⟩
      have hb6 := bnext hb4 hb5
      have hb13 := bnext hb3 hb5
      have hp0 : w3.cell? ⟨w1.heap.size, 0, none⟩ = some (.int .i64 4) := (hb13.cell (p := ⟨w1.heap.size, 0, none⟩) (by simp)).trans (by go_simp)
      have hp1 : w3.cell? ⟨w1.heap.size, 1, none⟩ = some (.int .i64 0) := (hb13.cell (p := ⟨w1.heap.size, 1, none⟩) (by simp)).trans (by go_simp)
      have hp2 : w3.cell? ⟨w1.heap.size, 2, none⟩ = some (.slice A1 k c1) := (hb13.cell (p := ⟨w1.heap.size, 2, none⟩) (by simp)).trans (by go_simp)
      have HR2 := Lib.hid (HR.out _ _ c1 hb6 (Hr1.out.below hb13))
      have QP : Hid (∀ W, Below w3.heap.size w3 W → W.cell? ⟨w1.heap.size, 0, none⟩ = some (.int .i64 4) ∧ W.cell? ⟨w1.heap.size, 1, none⟩ = some (.int .i64 0) ∧ W.cell? ⟨w1.heap.size, 2, none⟩ = some (.slice A1 k c1)) := fun W hW1 => ⟨(hW1.cell (p := ⟨w1.heap.size, 0, none⟩) (cell_lt hp0)).trans hp0, (hW1.cell (p := ⟨w1.heap.size, 1, none⟩) (cell_lt hp1)).trans hp1, (hW1.cell (p := ⟨w1.heap.size, 2, none⟩) (cell_lt hp2)).trans hp2⟩
      clear HBe HRB hb13 Hr1 hb2 hb3 hb4 hb5 HR
      go_wp2_with fail
      clear hp0 hp1 hp2
      refine HR2.out.mono ?_
      rintro e w4 ⟨v4, rfl, Hown4, hb7⟩
      obtain ⟨A4, c4, rfl, hc4, hr4⟩ := own_rd Hown4.out
      obtain ⟨x0, x1, x2⟩ := QP.out _ hb7
      have Hr4 := Lib.hid hr4
      have hb8 := bnext hb6 hb7
      clear hr4 Hown4 HR2
      go_wp2_with fail
      clear x0 x1 x2
      refine (HDf.out _ hb8).mono ?_
      rintro e w5 ⟨A5, c5, rfl, hr5, hb9⟩
      have hb10 := bnext hb8 hb9
      have hI := ints_any D D A4 A5 c4 c5 w5 (Hr4.out.below hb9) hr5 (by have := hDl.out; omega)
      rw [decide_eq_true rfl] at hI
      have HI := Lib.hid hI
      clear hI hr5 HDf Hr4
      go_wp2_with fail
      refine HI.out.mono ?_
      rintro e w6 ⟨rfl, hb11⟩
      have hb12 := bnext hb10 hb11
      clear HI
      go_wp2_with fail
      refine (awake_any _ (HF.out.below hb12)).mono ?_
      rintro e w7 ⟨rfl, hb14⟩
      have hend := bnext hb12 hb14
      go_wp2_with fail
      go_ret
      exact ⟨rfl, hend⟩
    · have eL : resL 4 0 (fixC k) ls = [] := if_neg hE
      have hEv : resE 4 0 (fixC k) ls = 1 ∨ resE 4 0 (fixC k) ls = 10 := by
        unfold resE at hE ⊢
        rw [if_neg (by rw [hok]; decide)] at hE ⊢
        split
        · exact .inl rfl
        · rename_i h1
          rw [if_neg h1] at hE
          split
          · exact .inr rfl
          · rename_i h2; rw [if_neg h2] at hE; exact absurd rfl hE
      rw [eL] at HR
      clear hE eL hok hfl hod hk
      generalize resE 4 0 (fixC k) ls = E at *
      generalize ls.length = n at *
      rcases hEv with rfl | rfl
      · go_enter Tryd.func4, Tryd.ntmps4
        go_wp2_with fail
        refine HFx.out.mono ?_
        rintro e w1 ⟨A1, c1, rfl, hc1, hr1, hb1⟩
        have hb2 : Below w.heap.size w (w1.alloc (.cells #[.int .i64 4, .int .i64 0, .slice A1 k c1] 24)) := bal hb1 _
        have Hr1 := Lib.hid (hr1.alloc (.cells #[.int .i64 4, .int .i64 0, .slice A1 k c1] 24))
        clear HFx hr1
        go_wp2_with fail
        refine (HBe.out _ hb2).mono ?_
        rintro e w2 ⟨rfl, hb3⟩
        have hb4 := bnext hb2 hb3
        go_wp2_with fail
        refine (HRB.out _ hb4).mono ?_
        rintro e w3 ⟨rfl, hb5⟩
        have hb6 := bnext hb4 hb5
        have hb13 := bnext hb3 hb5
        have hp0 : w3.cell? ⟨w1.heap.size, 0, none⟩ = some (.int .i64 4) := (hb13.cell (p := ⟨w1.heap.size, 0, none⟩) (by simp)).trans (by go_simp)
        have hp1 : w3.cell? ⟨w1.heap.size, 1, none⟩ = some (.int .i64 0) := (hb13.cell (p := ⟨w1.heap.size, 1, none⟩) (by simp)).trans (by go_simp)
        have hp2 : w3.cell? ⟨w1.heap.size, 2, none⟩ = some (.slice A1 k c1) := (hb13.cell (p := ⟨w1.heap.size, 2, none⟩) (by simp)).trans (by go_simp)
        have HR2 := Lib.hid (HR.out _ _ c1 hb6 (Hr1.out.below hb13))
        have QP : Hid (∀ W, Below w3.heap.size w3 W → W.cell? ⟨w1.heap.size, 0, none⟩ = some (.int .i64 4) ∧ W.cell? ⟨w1.heap.size, 1, none⟩ = some (.int .i64 0) ∧ W.cell? ⟨w1.heap.size, 2, none⟩ = some (.slice A1 k c1)) := fun W hW1 => ⟨(hW1.cell (p := ⟨w1.heap.size, 0, none⟩) (cell_lt hp0)).trans hp0, (hW1.cell (p := ⟨w1.heap.size, 1, none⟩) (cell_lt hp1)).trans hp1, (hW1.cell (p := ⟨w1.heap.size, 2, none⟩) (cell_lt hp2)).trans hp2⟩
        clear HBe HRB hb13 Hr1 hb2 hb3 hb4 hb5 HR
        go_wp2_with fail
        clear hp0 hp1 hp2
        refine HR2.out.mono ?_
        rintro e w4 ⟨v4, rfl, Hown4, hb7⟩
        obtain ⟨A4, c4, rfl, hc4, hr4⟩ := own_rd Hown4.out
        obtain ⟨x0, x1, x2⟩ := QP.out _ hb7
        have hb8 := bnext hb6 hb7
        clear hr4 Hown4 HR2
        go_wp2_with fail
        refine (awake_any _ (HF.out.below hb8)).mono ?_
        rintro e w7 ⟨rfl, hb14⟩
        have hend := bnext hb8 hb14
        go_wp2_with fail
        go_ret
        exact ⟨rfl, hend⟩
      · go_enter Tryd.func4, Tryd.ntmps4
        go_wp2_with fail
        refine HFx.out.mono ?_
        rintro e w1 ⟨A1, c1, rfl, hc1, hr1, hb1⟩
        have hb2 : Below w.heap.size w (w1.alloc (.cells #[.int .i64 4, .int .i64 0, .slice A1 k c1] 24)) := bal hb1 _
        have Hr1 := Lib.hid (hr1.alloc (.cells #[.int .i64 4, .int .i64 0, .slice A1 k c1] 24))
        clear HFx hr1
        go_wp2_with fail
        refine (HBe.out _ hb2).mono ?_
        rintro e w2 ⟨rfl, hb3⟩
        have hb4 := bnext hb2 hb3
        go_wp2_with fail
        refine (HRB.out _ hb4).mono ?_
        rintro e w3 ⟨rfl, hb5⟩
        have hb6 := bnext hb4 hb5
        have hb13 := bnext hb3 hb5
        have hp0 : w3.cell? ⟨w1.heap.size, 0, none⟩ = some (.int .i64 4) := (hb13.cell (p := ⟨w1.heap.size, 0, none⟩) (by simp)).trans (by go_simp)
        have hp1 : w3.cell? ⟨w1.heap.size, 1, none⟩ = some (.int .i64 0) := (hb13.cell (p := ⟨w1.heap.size, 1, none⟩) (by simp)).trans (by go_simp)
        have hp2 : w3.cell? ⟨w1.heap.size, 2, none⟩ = some (.slice A1 k c1) := (hb13.cell (p := ⟨w1.heap.size, 2, none⟩) (by simp)).trans (by go_simp)
        have HR2 := Lib.hid (HR.out _ _ c1 hb6 (Hr1.out.below hb13))
        have QP : Hid (∀ W, Below w3.heap.size w3 W → W.cell? ⟨w1.heap.size, 0, none⟩ = some (.int .i64 4) ∧ W.cell? ⟨w1.heap.size, 1, none⟩ = some (.int .i64 0) ∧ W.cell? ⟨w1.heap.size, 2, none⟩ = some (.slice A1 k c1)) := fun W hW1 => ⟨(hW1.cell (p := ⟨w1.heap.size, 0, none⟩) (cell_lt hp0)).trans hp0, (hW1.cell (p := ⟨w1.heap.size, 1, none⟩) (cell_lt hp1)).trans hp1, (hW1.cell (p := ⟨w1.heap.size, 2, none⟩) (cell_lt hp2)).trans hp2⟩
        clear HBe HRB hb13 Hr1 hb2 hb3 hb4 hb5 HR
        go_wp2_with fail
        clear hp0 hp1 hp2
        refine HR2.out.mono ?_
        rintro e w4 ⟨v4, rfl, Hown4, hb7⟩
        obtain ⟨A4, c4, rfl, hc4, hr4⟩ := own_rd Hown4.out
        obtain ⟨x0, x1, x2⟩ := QP.out _ hb7
        have hb8 := bnext hb6 hb7
        clear hr4 Hown4 HR2
        go_wp2_with fail
        refine (awake_any _ (HF.out.below hb8)).mono ?_
        rintro e w7 ⟨rfl, hb14⟩
        have hend := bnext hb8 hb14
        go_wp2_with fail
        go_ret
        exact ⟨rfl, hend⟩
end Go.Proofs.YtghnjgemjiekgaaDoor
