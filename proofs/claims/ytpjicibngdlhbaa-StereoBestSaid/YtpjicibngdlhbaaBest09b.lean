/-
  stereo.Best.
-/
import Derived.Test.YtpjicibngdlhbaaBest09
namespace Go.Proofs.Ytpjicibngdlhbaa
open Go.RowKit

def zA (mode : Int) (l m : List Int) : List Int := List.zipWith (fun x y => (twoN mode x y).1) l m
def zB (mode : Int) (l m : List Int) : List Int := List.zipWith (fun x y => (twoN mode x y).2) l m
theorem zA_length (mode : Int) {l m : List Int} (h : l.length = m.length) : (zA mode l m).length = l.length := by unfold zA; rw [List.length_zipWith]; omega
theorem zB_length (mode : Int) {l m : List Int} (h : l.length = m.length) : (zB mode l m).length = l.length := by unfold zB; rw [List.length_zipWith]; omega
theorem two_tame (mode x y : Int) (hx : outB x = false) (hy : outB y = false) : (-2199023255552 ≤ (twoN mode x y).1 ∧ (twoN mode x y).1 ≤ 2199023255552) ∧ -2199023255552 ≤ (twoN mode x y).2 ∧ (twoN mode x y).2 ≤ 2199023255552 := by
  obtain ⟨x1, x2⟩ := outB_no hx
  obtain ⟨y1, y2⟩ := outB_no hy
  unfold twoN
  (repeat' split) <;> simp only [] <;> omega
theorem zip_mem {f : Int → Int → Int} {l m : List Int} {z : Int} (h : z ∈ List.zipWith f l m) : ∃ x ∈ l, ∃ y ∈ m, z = f x y := by
  obtain ⟨i, hi, rfl⟩ := List.mem_iff_getElem.1 h
  rw [List.length_zipWith] at hi
  exact ⟨l[i], List.getElem_mem (by omega), m[i], List.getElem_mem (by omega), by rw [List.getElem_zipWith]⟩
theorem zA_tame (mode : Int) {l m : List Int} (h1 : ∀ x ∈ l, outB x = false) (h2 : ∀ x ∈ m, outB x = false) : tameL (zA mode l m) := by
  intro z hz
  obtain ⟨x, hx, y, hy, rfl⟩ := zip_mem hz
  exact (two_tame mode x y (h1 x hx) (h2 y hy)).1
theorem zB_tame (mode : Int) {l m : List Int} (h1 : ∀ x ∈ l, outB x = false) (h2 : ∀ x ∈ m, outB x = false) : tameL (zB mode l m) := by
  intro z hz
  obtain ⟨x, hx, y, hy, rfl⟩ := zip_mem hz
  exact (two_tame mode x y (h1 x hx) (h2 y hy)).2

/-- How great what is written in a mode is. -/
def sc (l m : List Int) (mode : Int) : Int := absS (zA mode l m) l.length + absS (zB mode l m) l.length
def modeAt : Nat → Int
  | 0 => 1
  | 1 => 8
  | 2 => 9
  | _ => 10
def upd (s : Int → Int) (c : Int × Int) (mode : Int) : Int × Int := if s mode < c.2 then (mode, s mode) else c
/-- The best mode out of the first ones, and how great. -/
def cst (s : Int → Int) : Nat → Int × Int
  | 0 => (0, 0)
  | 1 => (1, s 1)
  | k + 2 => upd s (cst s (k + 1)) (modeAt (k + 1))
theorem cst_succ (s : Int → Int) (k : Nat) (h : 0 < k) : cst s (k + 1) = upd s (cst s k) (modeAt k) := by
  obtain ⟨j, rfl⟩ : ∃ j, k = j + 1 := ⟨k - 1, by omega⟩
  rfl
theorem modeAt_pos (k : Nat) : 1 ≤ modeAt k ∧ modeAt k ≤ 10 ∧ badMode (modeAt k) = false := by
  unfold modeAt; split <;> exact ⟨by omega, by omega, by decide⟩
theorem cst_pos (s : Int → Int) : ∀ k, 0 < k → 1 ≤ (cst s k).1
  | 0, h => by omega
  | 1, _ => by simp [cst]
  | k + 2, _ => by
    have ih := cst_pos s (k + 1) (by omega)
    have := modeAt_pos (k + 1)
    show 1 ≤ (upd s (cst s (k + 1)) (modeAt (k + 1))).1
    unfold upd; split
    · exact this.1
    · exact ih

theorem best_no (l m : List Int) (A B : Option Addr) (c d : Nat) (w : World) (hr : Rd w A (zv l)) (hs : Rd w B (zv m)) (hl : l.length ≤ 60) (hm : m.length ≤ 60) (hW : wrongR 1 l m ≠ 0) :
    Calls Try.prog 13 #[.slice A l.length c, .slice B m.length d] w fun e w' => e = .returned (.tuple #[.int .i64 0, .int .i64 (wrongR 1 l m)]) ∧ Below w.heap.size w w' := by
  have Hr := Lib.hid hr; clear hr
  have Hs := Lib.hid hs; clear hs
  obtain ⟨f, hf⟩ : ∃ f, wrongR 1 l m = f := ⟨_, rfl⟩
  have hf0 : (f != 0) = true := by rw [bne_iff_ne, ← hf]; exact hW
  have Hf := Lib.hid hf
  have HW := Lib.hid hW
  clear hf hW
  go_enter Try.func13, Try.ntmps13
  obtain ⟨w1, hw1, hb1, hc0⟩ : ∃ w1, w.alloc (.cells #[.int .i64 1, .int .i64 8, .int .i64 9, .int .i64 10] 3) = w1 ∧ Below w.heap.size w w1 ∧ w1.cell? ⟨w.heap.size, 0, none⟩ = some (.int .i64 1) := ⟨_, rfl, by repeat (first | exact Below.refl _ _ | assumption | refine below_drewN ?_ _ | refine Below.drew ?_ | refine Below.alloc ?_ (Nat.le_refl _) _ | refine bal ?_ _ | refine bnext ?_ (by assumption)), by go_simp⟩
  go_wp2_with fail
  try rw [hw1]
  try clear hw1
  go_loopw [6, 7, 16] (fun b s i wr => i = .int .i64 0 ∧ wr = w1) (fun _ _ _ _ => 0)
  case atStart => exact ⟨rfl, rfl⟩
  case round =>
    obtain ⟨rfl, rfl⟩ := hrel
    go_wp2_with fail
    refine (part_no 1 l m A B c d _ (Hr.out.below hb1) (Hs.out.below hb1) (by omega) (by omega) HW.out).mono ?_
    rintro e w2 ⟨rfl, hb2⟩
    rw [Hf.out]
    go_wp2_with fail
    go_ret2
    exact ⟨by rw [Hf.out]; rfl, bnext hb1 hb2⟩

set_option maxHeartbeats 1000000 in
theorem best_ok (l m : List Int) (A B : Option Addr) (c d : Nat) (w : World) (hr : Rd w A (zv l)) (hs : Rd w B (zv m)) (hl : l.length ≤ 60) (hm : m.length ≤ 60) (hW : wrongR 1 l m = 0) :
    Calls Try.prog 13 #[.slice A l.length c, .slice B m.length d] w fun e w' => e = .returned (.tuple #[.int .i64 (cst (sc l m) 4).1, .int .i64 0]) ∧ Below w.heap.size w w' := by
  obtain ⟨-, hlm, o1, o2⟩ := wrong_zero hW
  have HWm : Hid (∀ k, wrongR (modeAt k) l m = 0) := fun k => (wrong_mode 1 (modeAt k) l m (by decide) (modeAt_pos k).2.2).trans hW
  have HLA : Hid (∀ k, (zA (modeAt k) l m).length = l.length) := fun k => zA_length _ hlm
  have HLB : Hid (∀ k, (zB (modeAt k) l m).length = l.length) := fun k => zB_length _ hlm
  have HTA : Hid (∀ k, tameL (zA (modeAt k) l m)) := fun k => zA_tame _ o1 o2
  have HTB : Hid (∀ k, tameL (zB (modeAt k) l m)) := fun k => zB_tame _ o1 o2
  clear hlm o1 o2 hW
  have Hr := Lib.hid hr; clear hr
  have Hs := Lib.hid hs; clear hs
  go_enter Try.func13, Try.ntmps13
  obtain ⟨w1, hw1, hb1, hc⟩ : ∃ w1, w.alloc (.cells #[.int .i64 1, .int .i64 8, .int .i64 9, .int .i64 10] 3) = w1 ∧ Below w.heap.size w w1 ∧ ∀ k, k < 4 → w1.cell? ⟨w.heap.size, k, none⟩ = some (.int .i64 (modeAt k)) := ⟨_, rfl, by repeat (first | exact Below.refl _ _ | assumption | refine below_drewN ?_ _ | refine Below.drew ?_ | refine Below.alloc ?_ (Nat.le_refl _) _ | refine bal ?_ _ | refine bnext ?_ (by assumption)), by
    intro k hk
    have hkc : k = 0 ∨ k = 1 ∨ k = 2 ∨ k = 3 := by omega
    rcases hkc with rfl | rfl | rfl | rfl <;> go_simp <;> rfl⟩
  have Hc := Lib.hid hc
  clear hc
  go_wp2_with fail
  try rw [hw1]
  try clear hw1
  go_loopw [6, 7, 16] (fun bv sv i wr => ∃ k : Nat, k ≤ 4 ∧ i = .int .i64 k ∧ bv = .int .i64 (cst (sc l m) k).1 ∧ sv = .int .i64 (cst (sc l m) k).2 ∧ Hid (Below w1.heap.size w1 wr)) (fun _ _ i _ => 4 - (intOf i).toNat)
  case atStart => exact ⟨0, by omega, rfl, rfl, rfl, Below.refl _ _⟩
  case round =>
    obtain ⟨k, hk, rfl, rfl, rfl, Hb⟩ := hrel
    by_cases hkk : k < 4
    · have hcell : wr.cell? ⟨w.heap.size, k, none⟩ = some (.int .i64 (modeAt k)) := (Hb.out.cell (p := ⟨w.heap.size, k, none⟩) (cell_lt (Hc.out k hkk))).trans (Hc.out k hkk)
      have hb2 := bnext hb1 Hb.out
      have P := part_ok (modeAt k) l m A B c d wr (Hr.out.below hb2) (Hs.out.below hb2) (by omega) (by omega) (HWm.out k) trivial
      have HP := Lib.hid P
      clear P
      have Hsc : Hid (sc l m (modeAt k) = absS (zA (modeAt k) l m) l.length + absS (zB (modeAt k) l m) l.length) := rfl
      have C0 : Hid (k = 0 → cst (sc l m) (k + 1) = (modeAt k, sc l m (modeAt k))) := by rintro rfl; rfl
      have C1 : Hid (0 < k → cst (sc l m) (k + 1) = upd (sc l m) (cst (sc l m) k) (modeAt k)) := cst_succ _ k
      have C2 : Hid (0 < k → 1 ≤ (cst (sc l m) k).1) := cst_pos _ k
      have C3 : Hid (k = 0 → (cst (sc l m) k).1 = 0) := by rintro rfl; rfl
      have LA := HLA.out k
      have LB := HLB.out k
      have TA := HTA.out k
      have TB := HTB.out k
      have Hup : Hid (∀ c : Int × Int, upd (sc l m) c (modeAt k) = if sc l m (modeAt k) < c.2 then (modeAt k, sc l m (modeAt k)) else c) := fun _ => rfl
      have S : Hid (∀ (A1 A2 : Option Addr) (c1 c2 g : Nat) (W : World), Rd W A1 (zv (zA (modeAt k) l m)) → Rd W A2 (zv (zB (modeAt k) l m)) → W.cell? ⟨g, 0, none⟩ = some (.slice A1 l.length c1) → W.cell? ⟨g, 1, none⟩ = some (.slice A2 l.length c2) →
          Calls Try.prog 21 #[.slice (some ⟨g, 0, none⟩) 2 2] W fun e w' => e = .returned (.int .i64 (sc l m (modeAt k))) ∧ w' = W) := by
        intro A1 A2 c1 c2 g W h1 h2 h3 h4
        have h := size_any _ _ TA TB A1 A2 c1 c2 g W h1 h2 (by omega) (by omega) (by rw [LA]; exact h3) (by rw [LB]; exact h4)
        rw [LA, LB] at h
        exact h
      have hmp := modeAt_pos k
      obtain ⟨hm1, hm2, -⟩ := hmp
      obtain ⟨b0, hb0⟩ : ∃ z, (cst (sc l m) k).1 = z := ⟨_, rfl⟩
      obtain ⟨s0, hs0⟩ : ∃ z, (cst (sc l m) k).2 = z := ⟨_, rfl⟩
      obtain ⟨n0, hn0⟩ : ∃ z, sc l m (modeAt k) = z := ⟨_, rfl⟩
      have Hcp : Hid (cst (sc l m) k = (b0, s0)) := by rw [← hb0, ← hs0]; rfl
      rw [hb0] at C2 C3 ⊢
      rw [hs0]
      rw [hn0] at S C0 Hup
      clear hb0 hs0 hn0 LA LB TA TB Hsc
      have SP : Hid (∀ W, Hid (Below wr.heap.size wr W) → True) := fun _ _ => trivial
      generalize hmk : modeAt k = md at *
      clear hmk
      go_wp2_with fail
      refine HP.out.mono ?_
      rintro e w3 ⟨A1, c1, A2, c2, rfl, R1, R2, hb3⟩
      have hb13 : Below w1.heap.size w1 w3 := bnext Hb.out hb3
      go_wp2_with fail
      refine (S.out A1 A2 c1 c2 _ _ (R1.out.alloc _) (R2.out.alloc _) (by go_simp) (by go_simp)).mono ?_
      rintro e w4 ⟨rfl, rfl⟩
      rcases Nat.eq_zero_or_pos k with hk0 | hk0
      · have hb0' : (b0 == 0) = true := by rw [beq_iff_eq]; exact C3.out hk0
        have C0' := Lib.hid (C0.out hk0)
        go_wp2_with fail
        go_roundw
        case rel => exact ⟨k + 1, by omega, by go_num, by rw [C0'.out], by rw [C0'.out], by show Below _ _ _; repeat (first | exact Below.refl _ _ | assumption | refine below_drewN ?_ _ | refine Below.drew ?_ | refine Below.alloc ?_ (Nat.le_refl _) _ | refine bal ?_ _ | refine bnext ?_ (by assumption))⟩
        case measure => simp [intOf] <;> omega
      · have hb0' : (b0 == 0) = false := by rw [beq_eq_false_iff_ne]; have := C2.out hk0; omega
        have C1' := Lib.hid (C1.out hk0)
        by_cases hlt : n0 < s0
        · have C4 : Hid (cst (sc l m) (k + 1) = (md, n0)) := by
            show _ = _
            rw [C1'.out, Hcp.out, Hup.out]; exact if_pos hlt
          go_wp2_with fail
          go_roundw
          case rel => exact ⟨k + 1, by omega, by go_num, by rw [C4.out], by rw [C4.out], by show Below _ _ _; repeat (first | exact Below.refl _ _ | assumption | refine below_drewN ?_ _ | refine Below.drew ?_ | refine Below.alloc ?_ (Nat.le_refl _) _ | refine bal ?_ _ | refine bnext ?_ (by assumption))⟩
          case measure => simp [intOf] <;> omega
        · have C4 : Hid (cst (sc l m) (k + 1) = (b0, s0)) := by
            show _ = _
            rw [C1'.out, Hcp.out, Hup.out]; exact if_neg hlt
          go_wp2_with fail
          go_roundw
          case rel => exact ⟨k + 1, by omega, by go_num, by rw [C4.out], by rw [C4.out], by show Below _ _ _; repeat (first | exact Below.refl _ _ | assumption | refine below_drewN ?_ _ | refine Below.drew ?_ | refine Below.alloc ?_ (Nat.le_refl _) _ | refine bal ?_ _ | refine bnext ?_ (by assumption))⟩
          case measure => simp [intOf] <;> omega
    · obtain rfl : k = 4 := by omega
      obtain ⟨b0, hb0⟩ : ∃ z, (cst (sc l m) 4).1 = z := ⟨_, rfl⟩
      rw [hb0]
      have Hb0 := Lib.hid hb0
      clear hb0
      go_wp2_with fail
      go_ret2
      exact ⟨by rw [Hb0.out]; rfl, bnext hb1 Hb.out⟩
end Go.Proofs.Ytpjicibngdlhbaa
