/-
  header: blockFits, rateFits.
-/
import Derived.Test.YtgohfbfdhdepnaaDoorHd08
namespace Go.Proofs.YtgohfbfdhdepnaaDoor
open Go.RowKit

def bFits (bc b : Int) : Bool := if bc = 6 then decide (1 ≤ b ∧ b ≤ 256) else if bc = 7 then decide (1 ≤ b ∧ b ≤ 65535) else decide (b = blkL.getD bc.toNat 0)
set_option maxHeartbeats 800000 in
theorem blockFits_any (h : Hd) (h0 : 0 ≤ h.bc) (h15 : h.bc < 16) (w : World) (ht : HTabs w) :
    Calls Tryd.prog 36 #[h.val] w fun e w' => e = .returned (.bool (bFits h.bc h.b)) ∧ Below w.heap.size w w' := by
  obtain ⟨V, bc, rc, m, dc, n, b, r, d⟩ := h
  simp only at h0 h15 ⊢
  simp only [Hd.val]
  have Ht := Lib.hid ht
  clear ht
  by_cases h6 : bc = 6
  · subst h6
    have e : bFits 6 b = decide (1 ≤ b ∧ b ≤ 256) := if_pos rfl
    rw [e]
    clear e
    by_cases hb : 1 ≤ b
    · have hd : decide (b ≥ 1) = true := decide_eq_true hb
      by_cases hb2 : b ≤ 256
      · have e : decide (1 ≤ b ∧ b ≤ 256) = true := decide_eq_true ⟨hb, hb2⟩
        rw [e]
        clear e
        go_enter Tryd.func36, Tryd.ntmps36
        go_wp2_with fail
        try rw [Exit.noGoto_ret]
        go_ret
        exact ⟨rfl, by repeat (first | exact Below.refl _ _ | assumption | refine below_drewN ?_ _ | refine Below.drew ?_ | refine Below.alloc ?_ (Nat.le_refl _) _ | refine bal ?_ _ | refine bnext ?_ (by assumption))⟩
      · have e : decide (1 ≤ b ∧ b ≤ 256) = false := decide_eq_false (fun h => hb2 h.2)
        rw [e]
        clear e
        go_enter Tryd.func36, Tryd.ntmps36
        go_wp2_with fail
        try rw [Exit.noGoto_ret]
        go_ret
        exact ⟨rfl, by repeat (first | exact Below.refl _ _ | assumption | refine below_drewN ?_ _ | refine Below.drew ?_ | refine Below.alloc ?_ (Nat.le_refl _) _ | refine bal ?_ _ | refine bnext ?_ (by assumption))⟩
    · have hd : decide (b ≥ 1) = false := decide_eq_false hb
      have e : decide (1 ≤ b ∧ b ≤ 256) = false := decide_eq_false (fun h => hb h.1)
      rw [e]
      clear e
      go_enter Tryd.func36, Tryd.ntmps36
      go_wp2_with fail
      try rw [Exit.noGoto_ret]
      go_ret
      exact ⟨rfl, by repeat (first | exact Below.refl _ _ | assumption | refine below_drewN ?_ _ | refine Below.drew ?_ | refine Below.alloc ?_ (Nat.le_refl _) _ | refine bal ?_ _ | refine bnext ?_ (by assumption))⟩
  have e6 : (bc == 6) = false := by rw [beq_eq_false_iff_ne]; exact h6
  by_cases h7 : bc = 7
  · subst h7
    have e : bFits 7 b = decide (1 ≤ b ∧ b ≤ 65535) := rfl
    rw [e]
    clear e
    by_cases hb : 1 ≤ b
    · have hd : decide (b ≥ 1) = true := decide_eq_true hb
      by_cases hb2 : b ≤ 65535
      · have e : decide (1 ≤ b ∧ b ≤ 65535) = true := decide_eq_true ⟨hb, hb2⟩
        rw [e]
        have hd2 : decide (b ≤ 65535) = true := decide_eq_true hb2
        clear e hb2
        go_enter Tryd.func36, Tryd.ntmps36
        go_wp2_with fail
        try rw [Exit.noGoto_ret]
        go_ret
        exact ⟨rfl, by repeat (first | exact Below.refl _ _ | assumption | refine below_drewN ?_ _ | refine Below.drew ?_ | refine Below.alloc ?_ (Nat.le_refl _) _ | refine bal ?_ _ | refine bnext ?_ (by assumption))⟩
      · have e : decide (1 ≤ b ∧ b ≤ 65535) = false := decide_eq_false (fun h => hb2 h.2)
        rw [e]
        have hd2 : decide (b ≤ 65535) = false := decide_eq_false hb2
        clear e hb2
        go_enter Tryd.func36, Tryd.ntmps36
        go_wp2_with fail
        try rw [Exit.noGoto_ret]
        go_ret
        exact ⟨rfl, by repeat (first | exact Below.refl _ _ | assumption | refine below_drewN ?_ _ | refine Below.drew ?_ | refine Below.alloc ?_ (Nat.le_refl _) _ | refine bal ?_ _ | refine bnext ?_ (by assumption))⟩
    · have hd : decide (b ≥ 1) = false := decide_eq_false hb
      have e : decide (1 ≤ b ∧ b ≤ 65535) = false := decide_eq_false (fun h => hb h.1)
      rw [e]
      clear e
      go_enter Tryd.func36, Tryd.ntmps36
      go_wp2_with fail
      try rw [Exit.noGoto_ret]
      go_ret
      exact ⟨rfl, by repeat (first | exact Below.refl _ _ | assumption | refine below_drewN ?_ _ | refine Below.drew ?_ | refine Below.alloc ?_ (Nat.le_refl _) _ | refine bal ?_ _ | refine bnext ?_ (by assumption))⟩
  have e7 : (bc == 7) = false := by rw [beq_eq_false_iff_ne]; exact h7
  have e : bFits bc b = decide (b = blkL.getD bc.toNat 0) := by rw [bFits, if_neg h6, if_neg h7]
  obtain ⟨i, rfl⟩ : ∃ i : Nat, bc = i := ⟨bc.toNat, by omega⟩
  rw [Int.toNat_natCast] at e
  have hi : i < 16 := by omega
  have hc := Ht.out.blk i hi
  rw [e]
  generalize blkL.getD i 0 = z at *
  clear e h6 h7
  have hlt := cell_lt hc
  have hne : (0 : Nat) ≠ w.heap.size := by omega
  by_cases hz : b = z
  · subst hz
    rw [decide_eq_true rfl]
    go_enter Tryd.func36, Tryd.ntmps36
    go_wp2_with fail
    go_quiet (fail)
    go_wp2_with fail
    try rw [Exit.noGoto_ret]
    go_ret
    exact ⟨rfl, by repeat (first | exact Below.refl _ _ | assumption | refine below_drewN ?_ _ | refine Below.drew ?_ | refine Below.alloc ?_ (Nat.le_refl _) _ | refine bal ?_ _ | refine bnext ?_ (by assumption))⟩
  · rw [decide_eq_false hz]
    have hz' : (b == z) = false := by rw [beq_eq_false_iff_ne]; exact hz
    go_enter Tryd.func36, Tryd.ntmps36
    go_wp2_with fail
    go_quiet (fail)
    go_wp2_with fail
    try rw [Exit.noGoto_ret]
    go_ret
    exact ⟨rfl, by repeat (first | exact Below.refl _ _ | assumption | refine below_drewN ?_ _ | refine Below.drew ?_ | refine Below.alloc ?_ (Nat.le_refl _) _ | refine bal ?_ _ | refine bnext ?_ (by assumption))⟩

def rFits (rc r : Int) : Bool := if ratL.getD rc.toNat 0 = -2 then decide (0 ≤ r ∧ r % unU rc = 0 ∧ r / unU rc < 2 ^ unN rc) else decide (r = ratL.getD rc.toNat 0)
theorem rat_behind (i : Nat) (hi : i < 16) (h : ratL.getD i 0 = -2) : i = 12 ∨ i = 13 ∨ i = 14 := by
  have : ∀ i : Fin 16, ratL.getD i.val 0 = -2 → i.val = 12 ∨ i.val = 13 ∨ i.val = 14 := by decide +kernel
  exact this ⟨i, hi⟩ h

set_option maxHeartbeats 1600000 in
theorem rateFits_12 (V : Bool) (bc m dc n b r d : Int) (hr63 : r ≤ 9223372036854775807) (w : World) (ht : HTabs w) :
    Calls Tryd.prog 37 #[(Hd.mk V bc 12 m dc n b r d).val] w fun e w' => e = .returned (.bool (decide (0 ≤ r ∧ r % 1000 = 0 ∧ r / 1000 < 256))) ∧ Below w.heap.size w w' := by
  simp only [Hd.val]
  have hc : w.cell? ⟨1, 12, none⟩ = some (.int .i64 (-2)) := ht.rat 12 (by omega)
  have hlt := cell_lt hc
  have hne : (1 : Nat) ≠ w.heap.size := by omega
  have HU := Lib.hid (fun W => unit_any 12 W)
  clear ht
  by_cases h0 : 0 ≤ r
  · have g0 : decide (r ≥ 0) = true := decide_eq_true h0
    have ge : r.tmod 1000 = r % 1000 := Int.tmod_eq_emod_of_nonneg h0
    have gd : r.tdiv 1000 = r / 1000 := Int.tdiv_eq_ediv_of_nonneg h0
    have hw : wrap64 (r / 1000) = r / 1000 := by unfold wrap64; omega
    have hw2 : IntKind.i64.wrap (r / 1000) = r / 1000 := by rw [IntKind.wrap_i64]; omega
    by_cases h1 : r % 1000 = 0
    · by_cases h2 : r / 1000 < 256
      · have h2' : decide (r / 1000 < 256) = true := decide_eq_true (by omega)
        rw [decide_eq_true (⟨h0, h1, h2⟩ : 0 ≤ r ∧ r % 1000 = 0 ∧ r / 1000 < 256)]
        go_enter Tryd.func37, Tryd.ntmps37
        go_wp2_with fail
        refine (HU.out _).mono ?_
        rintro e w1 ⟨rfl, rfl⟩
        have e1 : unU 12 = 1000 := rfl
        have e2 : unN 12 = 8 := rfl
        rw [e1, e2]
        go_wp2_with fail
        go_quiet (fail)
        go_wp2_with fail
        try rw [Exit.noGoto_ret]
        go_ret
        exact ⟨rfl, by repeat (first | exact Below.refl _ _ | assumption | refine below_drewN ?_ _ | refine Below.drew ?_ | refine Below.alloc ?_ (Nat.le_refl _) _ | refine bal ?_ _ | refine bnext ?_ (by assumption))⟩
      · have h2' : decide (r / 1000 < 256) = false := decide_eq_false (by omega)
        rw [decide_eq_false (fun h => h2 h.2.2 : ¬ (0 ≤ r ∧ r % 1000 = 0 ∧ r / 1000 < 256))]
        go_enter Tryd.func37, Tryd.ntmps37
        go_wp2_with fail
        refine (HU.out _).mono ?_
        rintro e w1 ⟨rfl, rfl⟩
        have e1 : unU 12 = 1000 := rfl
        have e2 : unN 12 = 8 := rfl
        rw [e1, e2]
        go_wp2_with fail
        go_quiet (fail)
        go_wp2_with fail
        try rw [Exit.noGoto_ret]
        go_ret
        exact ⟨rfl, by repeat (first | exact Below.refl _ _ | assumption | refine below_drewN ?_ _ | refine Below.drew ?_ | refine Below.alloc ?_ (Nat.le_refl _) _ | refine bal ?_ _ | refine bnext ?_ (by assumption))⟩
    · rw [decide_eq_false (fun h => h1 h.2.1 : ¬ (0 ≤ r ∧ r % 1000 = 0 ∧ r / 1000 < 256))]
      have h1' : (r % 1000 == 0) = false := by rw [beq_eq_false_iff_ne]; exact h1
      go_enter Tryd.func37, Tryd.ntmps37
      go_wp2_with fail
      refine (HU.out _).mono ?_
      rintro e w1 ⟨rfl, rfl⟩
      have e1 : unU 12 = 1000 := rfl
      have e2 : unN 12 = 8 := rfl
      rw [e1, e2]
      go_wp2_with fail
      go_quiet (fail)
      go_wp2_with fail
      try rw [Exit.noGoto_ret]
      go_ret
      exact ⟨rfl, by repeat (first | exact Below.refl _ _ | assumption | refine below_drewN ?_ _ | refine Below.drew ?_ | refine Below.alloc ?_ (Nat.le_refl _) _ | refine bal ?_ _ | refine bnext ?_ (by assumption))⟩
  · rw [decide_eq_false (fun h => h0 h.1 : ¬ (0 ≤ r ∧ r % 1000 = 0 ∧ r / 1000 < 256))]
    have g0 : decide (r ≥ 0) = false := decide_eq_false h0
    go_enter Tryd.func37, Tryd.ntmps37
    go_wp2_with fail
    refine (HU.out _).mono ?_
    rintro e w1 ⟨rfl, rfl⟩
    have e1 : unU 12 = 1000 := rfl
    have e2 : unN 12 = 8 := rfl
    rw [e1, e2]
    go_wp2_with fail
    go_quiet (fail)
    go_wp2_with fail
    try rw [Exit.noGoto_ret]
    go_ret
    exact ⟨rfl, by repeat (first | exact Below.refl _ _ | assumption | refine below_drewN ?_ _ | refine Below.drew ?_ | refine Below.alloc ?_ (Nat.le_refl _) _ | refine bal ?_ _ | refine bnext ?_ (by assumption))⟩

set_option maxHeartbeats 1600000 in
theorem rateFits_13 (V : Bool) (bc m dc n b r d : Int) (hr63 : r ≤ 9223372036854775807) (w : World) (ht : HTabs w) :
    Calls Tryd.prog 37 #[(Hd.mk V bc 13 m dc n b r d).val] w fun e w' => e = .returned (.bool (decide (0 ≤ r ∧ r % 1 = 0 ∧ r / 1 < 65536))) ∧ Below w.heap.size w w' := by
  simp only [Hd.val]
  have hc : w.cell? ⟨1, 13, none⟩ = some (.int .i64 (-2)) := ht.rat 13 (by omega)
  have hlt := cell_lt hc
  have hne : (1 : Nat) ≠ w.heap.size := by omega
  have HU := Lib.hid (fun W => unit_any 13 W)
  clear ht
  by_cases h0 : 0 ≤ r
  · have g0 : decide (r ≥ 0) = true := decide_eq_true h0
    have ge : r.tmod 1 = r % 1 := Int.tmod_eq_emod_of_nonneg h0
    have gd : r.tdiv 1 = r / 1 := Int.tdiv_eq_ediv_of_nonneg h0
    have hw : wrap64 (r) = r := by unfold wrap64; omega
    have hw2 : IntKind.i64.wrap (r) = r := by rw [IntKind.wrap_i64]; omega
    by_cases h1 : r % 1 = 0
    · by_cases h2 : r / 1 < 65536
      · have h2' : decide (r < 65536) = true := decide_eq_true (by omega)
        rw [decide_eq_true (⟨h0, h1, h2⟩ : 0 ≤ r ∧ r % 1 = 0 ∧ r / 1 < 65536)]
        go_enter Tryd.func37, Tryd.ntmps37
        go_wp2_with fail
        refine (HU.out _).mono ?_
        rintro e w1 ⟨rfl, rfl⟩
        have e1 : unU 13 = 1 := rfl
        have e2 : unN 13 = 16 := rfl
        rw [e1, e2]
        go_wp2_with fail
        go_quiet (fail)
        go_wp2_with fail
        try rw [Exit.noGoto_ret]
        go_ret
        exact ⟨rfl, by repeat (first | exact Below.refl _ _ | assumption | refine below_drewN ?_ _ | refine Below.drew ?_ | refine Below.alloc ?_ (Nat.le_refl _) _ | refine bal ?_ _ | refine bnext ?_ (by assumption))⟩
      · have h2' : decide (r < 65536) = false := decide_eq_false (by omega)
        rw [decide_eq_false (fun h => h2 h.2.2 : ¬ (0 ≤ r ∧ r % 1 = 0 ∧ r / 1 < 65536))]
        go_enter Tryd.func37, Tryd.ntmps37
        go_wp2_with fail
        refine (HU.out _).mono ?_
        rintro e w1 ⟨rfl, rfl⟩
        have e1 : unU 13 = 1 := rfl
        have e2 : unN 13 = 16 := rfl
        rw [e1, e2]
        go_wp2_with fail
        go_quiet (fail)
        go_wp2_with fail
        try rw [Exit.noGoto_ret]
        go_ret
        exact ⟨rfl, by repeat (first | exact Below.refl _ _ | assumption | refine below_drewN ?_ _ | refine Below.drew ?_ | refine Below.alloc ?_ (Nat.le_refl _) _ | refine bal ?_ _ | refine bnext ?_ (by assumption))⟩
    · exact absurd (by omega) h1
  · rw [decide_eq_false (fun h => h0 h.1 : ¬ (0 ≤ r ∧ r % 1 = 0 ∧ r / 1 < 65536))]
    have g0 : decide (r ≥ 0) = false := decide_eq_false h0
    go_enter Tryd.func37, Tryd.ntmps37
    go_wp2_with fail
    refine (HU.out _).mono ?_
    rintro e w1 ⟨rfl, rfl⟩
    have e1 : unU 13 = 1 := rfl
    have e2 : unN 13 = 16 := rfl
    rw [e1, e2]
    go_wp2_with fail
    go_quiet (fail)
    go_wp2_with fail
    try rw [Exit.noGoto_ret]
    go_ret
    exact ⟨rfl, by repeat (first | exact Below.refl _ _ | assumption | refine below_drewN ?_ _ | refine Below.drew ?_ | refine Below.alloc ?_ (Nat.le_refl _) _ | refine bal ?_ _ | refine bnext ?_ (by assumption))⟩

set_option maxHeartbeats 1600000 in
theorem rateFits_14 (V : Bool) (bc m dc n b r d : Int) (hr63 : r ≤ 9223372036854775807) (w : World) (ht : HTabs w) :
    Calls Tryd.prog 37 #[(Hd.mk V bc 14 m dc n b r d).val] w fun e w' => e = .returned (.bool (decide (0 ≤ r ∧ r % 10 = 0 ∧ r / 10 < 65536))) ∧ Below w.heap.size w w' := by
  simp only [Hd.val]
  have hc : w.cell? ⟨1, 14, none⟩ = some (.int .i64 (-2)) := ht.rat 14 (by omega)
  have hlt := cell_lt hc
  have hne : (1 : Nat) ≠ w.heap.size := by omega
  have HU := Lib.hid (fun W => unit_any 14 W)
  clear ht
  by_cases h0 : 0 ≤ r
  · have g0 : decide (r ≥ 0) = true := decide_eq_true h0
    have ge : r.tmod 10 = r % 10 := Int.tmod_eq_emod_of_nonneg h0
    have gd : r.tdiv 10 = r / 10 := Int.tdiv_eq_ediv_of_nonneg h0
    have hw : wrap64 (r / 10) = r / 10 := by unfold wrap64; omega
    have hw2 : IntKind.i64.wrap (r / 10) = r / 10 := by rw [IntKind.wrap_i64]; omega
    by_cases h1 : r % 10 = 0
    · by_cases h2 : r / 10 < 65536
      · have h2' : decide (r / 10 < 65536) = true := decide_eq_true (by omega)
        rw [decide_eq_true (⟨h0, h1, h2⟩ : 0 ≤ r ∧ r % 10 = 0 ∧ r / 10 < 65536)]
        go_enter Tryd.func37, Tryd.ntmps37
        go_wp2_with fail
        refine (HU.out _).mono ?_
        rintro e w1 ⟨rfl, rfl⟩
        have e1 : unU 14 = 10 := rfl
        have e2 : unN 14 = 16 := rfl
        rw [e1, e2]
        go_wp2_with fail
        go_quiet (fail)
        go_wp2_with fail
        try rw [Exit.noGoto_ret]
        go_ret
        exact ⟨rfl, by repeat (first | exact Below.refl _ _ | assumption | refine below_drewN ?_ _ | refine Below.drew ?_ | refine Below.alloc ?_ (Nat.le_refl _) _ | refine bal ?_ _ | refine bnext ?_ (by assumption))⟩
      · have h2' : decide (r / 10 < 65536) = false := decide_eq_false (by omega)
        rw [decide_eq_false (fun h => h2 h.2.2 : ¬ (0 ≤ r ∧ r % 10 = 0 ∧ r / 10 < 65536))]
        go_enter Tryd.func37, Tryd.ntmps37
        go_wp2_with fail
        refine (HU.out _).mono ?_
        rintro e w1 ⟨rfl, rfl⟩
        have e1 : unU 14 = 10 := rfl
        have e2 : unN 14 = 16 := rfl
        rw [e1, e2]
        go_wp2_with fail
        go_quiet (fail)
        go_wp2_with fail
        try rw [Exit.noGoto_ret]
        go_ret
        exact ⟨rfl, by repeat (first | exact Below.refl _ _ | assumption | refine below_drewN ?_ _ | refine Below.drew ?_ | refine Below.alloc ?_ (Nat.le_refl _) _ | refine bal ?_ _ | refine bnext ?_ (by assumption))⟩
    · rw [decide_eq_false (fun h => h1 h.2.1 : ¬ (0 ≤ r ∧ r % 10 = 0 ∧ r / 10 < 65536))]
      have h1' : (r % 10 == 0) = false := by rw [beq_eq_false_iff_ne]; exact h1
      go_enter Tryd.func37, Tryd.ntmps37
      go_wp2_with fail
      refine (HU.out _).mono ?_
      rintro e w1 ⟨rfl, rfl⟩
      have e1 : unU 14 = 10 := rfl
      have e2 : unN 14 = 16 := rfl
      rw [e1, e2]
      go_wp2_with fail
      go_quiet (fail)
      go_wp2_with fail
      try rw [Exit.noGoto_ret]
      go_ret
      exact ⟨rfl, by repeat (first | exact Below.refl _ _ | assumption | refine below_drewN ?_ _ | refine Below.drew ?_ | refine Below.alloc ?_ (Nat.le_refl _) _ | refine bal ?_ _ | refine bnext ?_ (by assumption))⟩
  · rw [decide_eq_false (fun h => h0 h.1 : ¬ (0 ≤ r ∧ r % 10 = 0 ∧ r / 10 < 65536))]
    have g0 : decide (r ≥ 0) = false := decide_eq_false h0
    go_enter Tryd.func37, Tryd.ntmps37
    go_wp2_with fail
    refine (HU.out _).mono ?_
    rintro e w1 ⟨rfl, rfl⟩
    have e1 : unU 14 = 10 := rfl
    have e2 : unN 14 = 16 := rfl
    rw [e1, e2]
    go_wp2_with fail
    go_quiet (fail)
    go_wp2_with fail
    try rw [Exit.noGoto_ret]
    go_ret
    exact ⟨rfl, by repeat (first | exact Below.refl _ _ | assumption | refine below_drewN ?_ _ | refine Below.drew ?_ | refine Below.alloc ?_ (Nat.le_refl _) _ | refine bal ?_ _ | refine bnext ?_ (by assumption))⟩

set_option maxHeartbeats 800000 in
theorem rateFits_any (h : Hd) (h0 : 0 ≤ h.rc) (h15 : h.rc < 16) (hr63 : h.r ≤ 9223372036854775807) (w : World) (ht : HTabs w) :
    Calls Tryd.prog 37 #[h.val] w fun e w' => e = .returned (.bool (rFits h.rc h.r)) ∧ Below w.heap.size w w' := by
  obtain ⟨V, bc, rc, m, dc, n, b, r, d⟩ := h
  simp only at h0 h15 hr63 ⊢
  obtain ⟨i, rfl⟩ : ∃ i : Nat, rc = i := ⟨rc.toNat, by omega⟩
  have hi : i < 16 := by omega
  by_cases hb : ratL.getD i 0 = -2
  · rcases rat_behind i hi hb with rfl | rfl | rfl
    · exact rateFits_12 V bc m dc n b r d hr63 w ht
    · exact rateFits_13 V bc m dc n b r d hr63 w ht
    · exact rateFits_14 V bc m dc n b r d hr63 w ht
  have e : rFits i r = decide (r = ratL.getD i 0) := by rw [rFits, Int.toNat_natCast, if_neg hb]
  have hc := ht.rat i hi
  rw [e]
  generalize ratL.getD i 0 = z at *
  clear e ht
  have hlt := cell_lt hc
  have hne : (1 : Nat) ≠ w.heap.size := by omega
  have hb' : (z != -2) = true := by rw [bne_iff_ne]; exact hb
  simp only [Hd.val]
  by_cases hz : r = z
  · subst hz
    rw [decide_eq_true rfl]
    go_enter Tryd.func37, Tryd.ntmps37
    go_wp2_with fail
    go_quiet (fail)
    go_wp2_with fail
    try rw [Exit.noGoto_ret]
    go_ret
    exact ⟨rfl, by repeat (first | exact Below.refl _ _ | assumption | refine below_drewN ?_ _ | refine Below.drew ?_ | refine Below.alloc ?_ (Nat.le_refl _) _ | refine bal ?_ _ | refine bnext ?_ (by assumption))⟩
  · rw [decide_eq_false hz]
    have hz' : (r == z) = false := by rw [beq_eq_false_iff_ne]; exact hz
    go_enter Tryd.func37, Tryd.ntmps37
    go_wp2_with fail
    go_quiet (fail)
    go_wp2_with fail
    try rw [Exit.noGoto_ret]
    go_ret
    exact ⟨rfl, by repeat (first | exact Below.refl _ _ | assumption | refine below_drewN ?_ _ | refine Below.drew ?_ | refine Below.alloc ?_ (Nat.le_refl _) _ | refine bal ?_ _ | refine bnext ?_ (by assumption))⟩
end Go.Proofs.YtgohfbfdhdepnaaDoor
