/-
  jetsamlaw18.BurstWide: its plain law and its walk.
-/
import Derived.Test.YticfmhmkgcdhgaaBo18
set_option linter.unusedSimpArgs false
set_option linter.unusedVariables false
namespace Go.Proofs.Yticfmhmkgcdhgaa
open Go.RowKit
open Crc (bits8 bitsOf bits8_le bitsOf_le bl bk)

/-- A slice of bursts reads as these. -/
def RdB (w : World) (A : Option Addr) (l : List B3) : Prop :=
  ∀ j x, l[j]? = some x → ∃ b o, A = some ⟨b, o, none⟩ ∧ w.cell? ⟨b, o + j * 3, none⟩ = some (.int .i64 (x.a : Int)) ∧ w.cell? ⟨b, o + j * 3 + 1, none⟩ = some (.int .i64 (x.n : Int)) ∧ w.cell? ⟨b, o + j * 3 + 2, none⟩ = some (.int .i64 (x.p : Int))
theorem RdB.below {w w' : World} {A : Option Addr} {l : List B3} (h : RdB w A l) (hb : Below w.heap.size w w') : RdB w' A l := by
  intro j x hx
  obtain ⟨b, o, rfl, h0, h1, h2⟩ := h j x hx
  exact ⟨b, o, rfl, (hb.cell (p := ⟨b, o + j * 3, none⟩) (cell_lt h0)).trans h0, (hb.cell (p := ⟨b, o + j * 3 + 1, none⟩) (cell_lt h1)).trans h1, (hb.cell (p := ⟨b, o + j * 3 + 2, none⟩) (cell_lt h2)).trans h2⟩
theorem flat3 {l : List B3} {j : Nat} {x : B3} (h : l[j]? = some x) : ∀ i, i < 3 → (l.flatMap cellX)[j * 3 + i]? = (cellX x)[i]? := by
  intro i hi
  induction l generalizing j with
  | nil => simp at h
  | cons y l ih =>
    rw [List.flatMap_cons]
    cases j with
    | zero =>
      simp at h
      subst h
      rw [List.getElem?_append_left (by simp [cellX]; omega)]
      simp
    | succ j =>
      simp at h
      rw [List.getElem?_append_right (by simp [cellX]; omega)]
      have := ih h
      rw [← this]
      congr 1
      simp [cellX]
      omega
theorem rdB_own {w : World} {base : Nat} {e : TypeId} {v : Value} {l : List B3} (h : w.ownsRow base e 3 v l.length (l.flatMap cellX)) : ∃ A c, v = .slice A l.length c ∧ RdB w A l := by
  cases l with
  | nil =>
    obtain ⟨A, c, rfl⟩ := own_form h
    exact ⟨A, c, rfl, fun j x hx => by simp at hx⟩
  | cons y l =>
    obtain ⟨g, cap, rfl, -, -, hc, -⟩ := own_open h (by simp)
    refine ⟨_, _, rfl, fun j x hx => ⟨g, 0, rfl, ?_, ?_, ?_⟩⟩
    · rw [Nat.zero_add]; exact hc _ _ (by have := flat3 hx 0 (by omega); simpa [cellX] using this)
    · rw [Nat.zero_add]; exact hc _ _ (by have := flat3 hx 1 (by omega); simpa [cellX] using this)
    · rw [Nat.zero_add]; exact hc _ _ (by have := flat3 hx 2 (by omega); simpa [cellX] using this)
/-- All bursts, as plain triples. -/
def allB (bs : List UInt8) (most : Int) : List B3 := (allH (8 * bs.length) (crc16 0 bs) most).map (·.1)
theorem allB_length (bs : List UInt8) (most : Int) : (allB bs most).length ≤ 8 * bs.length := by
  unfold allB allH
  rw [List.length_map]
  split
  · simp
  · exact hits_length _ _ _ _
theorem listedB (bs : List UInt8) (A : Option Addr) (c : Nat) (most : Int) (w : World) (hr : Rd w A (bv bs)) (hl : bs.length ≤ 240) (hn : A = none → bs.length = 0 ∧ c = 0) :
    Calls Try.prog 11 #[.slice A bs.length c, .int .i64 most] w fun e w' => ∃ A' c', e = .returned (.tuple #[.slice A' (allB bs most).length c', .bool true]) ∧ Hid (RdB w' A' (allB bs most)) ∧ Below w.heap.size w w' := by
  refine (listed_any bs A c most w hr hl hn).mono ?_
  rintro e w' ⟨v, rfl, hown, hb⟩
  have h2 : w'.ownsRow w.heap.size 28 3 v (allB bs most).length ((allB bs most).flatMap cellX) := by
    unfold allB
    rw [List.length_map, ← cellsX_eq]
    exact hown
  obtain ⟨A', c', rfl, hr'⟩ := rdB_own h2
  exact ⟨A', c', rfl, hr', hb⟩

theorem hits_narrow (N C : Nat) (most : Int) (h16 : most ≤ 16) : ∀ k, (hits N C most k).map (·.1) = ((hits N C 16 k).map (·.1)).filter fun x => decide ((x.n : Int) ≤ most)
  | 0 => rfl
  | k + 1 => by
    rw [hits, hits, List.map_append, List.map_append, List.filter_append, hits_narrow N C most h16 k]
    congr 1
    unfold hit
    by_cases h : hitC N C 16 k ∧ k < N
    · rw [dif_pos h]
      by_cases hm : ((bl (sumAt C k) : Nat) : Int) ≤ most
      · rw [dif_pos ⟨⟨h.1.1, hm, h.1.2.2⟩, h.2⟩]; simp [hm]
      · rw [dif_neg (fun h' => hm h'.1.2.1)]; simp [hm]
    · rw [dif_neg h, dif_neg (fun h' => h ⟨⟨h'.1.1, Int.le_trans h'.1.2.1 h16, h'.1.2.2⟩, h'.2⟩)]; rfl
theorem allB_narrow (bs : List UInt8) (most : Int) (h1 : 1 ≤ most) (h16 : most ≤ 16) : allB bs most = (allB bs 16).filter fun x => decide ((x.n : Int) ≤ most) := by
  unfold allB allH
  by_cases hC : crc16 0 bs = 0
  · rw [if_pos (.inr (.inr hC)), if_pos (.inr (.inr hC))]; rfl
  · rw [if_neg (by omega), if_neg (by omega)]
    exact hits_narrow _ _ _ h16 _
theorem filter_at (xs : List B3) (P : B3 → Bool) (k : Nat) (hk : k < xs.length) (hP : P xs[k] = true) : (xs.filter P)[((xs.take k).filter P).length]? = some xs[k] ∧ ((xs.take (k + 1)).filter P).length = ((xs.take k).filter P).length + 1 := by
  constructor
  · conv => lhs; lhs; rw [← List.take_append_drop k xs]
    rw [List.filter_append, List.getElem?_append_right (Nat.le_refl _), Nat.sub_self, List.drop_eq_getElem_cons hk, List.filter_cons_of_pos hP]
    rfl
  · rw [List.take_succ_eq_append_getElem hk, List.filter_append, List.length_append]
    simp [hP]
theorem filter_no (xs : List B3) (P : B3 → Bool) (k : Nat) (hk : k < xs.length) (hP : P xs[k] = false) : ((xs.take (k + 1)).filter P).length = ((xs.take k).filter P).length := by
  rw [List.take_succ_eq_append_getElem hk, List.filter_append, List.length_append]
  simp [hP]

set_option maxRecDepth 100000 in
set_option maxHeartbeats 1600000 in
theorem wide_walk (l : List UInt8) (A : Option Addr) (c : Nat) (most : Int) (w : World) (hl : Rd w A (bv l)) (hn : A = none → l.length = 0 ∧ c = 0) :
    Calls Try.prog 3 #[.slice A l.length c, .int .i64 most] w fun e w' => e = .returned (.bool true) ∧ Below w.heap.size w w' := by
  by_cases h1 : (60 : Int) < l.length
  · clear hl hn
    go_enter Try.func3, Try.ntmps3
    go_wp2_with fail
    (refine (awake_any _).mono ?_; rintro e w9 ⟨rfl, hb9⟩; go_wp2_with fail; go_ret; exact ⟨rfl, by repeat (first | exact Below.refl _ _ | assumption | refine below_drewN ?_ _ | refine Below.drew ?_ | refine Below.alloc ?_ (Nat.le_refl _) _ | refine bal ?_ _ | refine bnext ?_ (by assumption))⟩)
  by_cases h2 : most < 1
  · clear hl hn
    go_enter Try.func3, Try.ntmps3
    go_wp2_with fail
    (refine (awake_any _).mono ?_; rintro e w9 ⟨rfl, hb9⟩; go_wp2_with fail; go_ret; exact ⟨rfl, by repeat (first | exact Below.refl _ _ | assumption | refine below_drewN ?_ _ | refine Below.drew ?_ | refine Below.alloc ?_ (Nat.le_refl _) _ | refine bal ?_ _ | refine bnext ?_ (by assumption))⟩)
  by_cases h3 : 16 < most
  · clear hl hn
    go_enter Try.func3, Try.ntmps3
    go_wp2_with fail
    (refine (awake_any _).mono ?_; rintro e w9 ⟨rfl, hb9⟩; go_wp2_with fail; go_ret; exact ⟨rfl, by repeat (first | exact Below.refl _ _ | assumption | refine below_drewN ?_ _ | refine Below.drew ?_ | refine Below.alloc ?_ (Nat.le_refl _) _ | refine bal ?_ _ | refine bnext ?_ (by assumption))⟩)
  have HL := Lib.hid (fun (m : Int) W (h : Below w.heap.size w W) => listedB l A c m W (hl.below h) (by omega) hn)
  have hys := Lib.hid (allB_narrow l most (by omega) (by omega))
  have hle := allB_length l 16
  have hle2 := allB_length l most
  clear hl hn
  go_enter Try.func3, Try.ntmps3
  go_wp2_with fail
  refine (HL.out most _ (Below.refl _ _)).mono ?_
  rintro e w1 ⟨A1, c1, rfl, HR1, hb1⟩
  go_wp2_with fail
  refine (HL.out 16 _ hb1).mono ?_
  rintro e w2 ⟨A2, c2, rfl, HR2, hb2⟩
  have HR1' : Hid (RdB w2 A1 (allB l most)) := HR1.out.below hb2
  have hb3 : Below w.heap.size w w2 := bnext hb1 hb2
  clear HL HR1 hb1 hb2
  obtain ⟨xs, hxs⟩ : ∃ xs, allB l 16 = xs := ⟨_, rfl⟩
  obtain ⟨ys, hys2⟩ : ∃ ys, allB l most = ys := ⟨_, rfl⟩
  rw [hxs] at hle HR2 hys ⊢
  rw [hys2] at hle2 HR1' hys ⊢
  clear hxs hys2
  have Hfa := Lib.hid (filter_at xs fun x => decide ((x.n : Int) ≤ most))
  have Hfn := Lib.hid (filter_no xs fun x => decide ((x.n : Int) ≤ most))
  have Hl : Hid (((xs.take xs.length).filter fun x => decide ((x.n : Int) ≤ most)).length = ys.length) := by
    show _ = _
    rw [List.take_of_length_le (Nat.le_refl _), hys.out]
  go_wp2_with fail
  go_loopw [9, 10] (fun n i wr => ∃ k : Nat, k ≤ xs.length ∧ i = .int .i64 k ∧ n = .int .i64 (((xs.take k).filter fun x => decide ((x.n : Int) ≤ most)).length : Nat) ∧ Hid (RdB wr A1 ys) ∧ Hid (RdB wr A2 xs) ∧ Below w.heap.size w wr) (fun _ i _ => xs.length - (intOf i).toNat)
  case atStart => exact ⟨0, by omega, rfl, rfl, HR1', HR2, hb3⟩
  case round =>
    obtain ⟨k, hk, rfl, rfl, hr1, hr2, hb⟩ := hrel
    clear HR1' HR2 hb3
    by_cases hkk : k < xs.length
    · obtain ⟨b2, o2, rfl, hx0, hx1, hx2⟩ := hr2.out k xs[k] (List.getElem?_eq_getElem hkk)
      by_cases hm : ((xs[k].n : Nat) : Int) ≤ most
      · obtain ⟨e1, e2⟩ := Hfa.out k hkk (by simpa using hm)
        have He2 := Lib.hid e2
        rw [← hys.out] at e1
        clear e2
        generalize ((xs.take k).filter fun x => decide ((x.n : Int) ≤ most)).length = n at *
        have hn : n < ys.length := (List.getElem?_eq_some_iff.1 e1).1
        obtain ⟨b1, o1, rfl, hy0, hy1, hy2⟩ := hr1.out n _ e1
        generalize xs[k] = x at *
        clear e1 Hfa Hfn
        have hn1 : (n : Int) < ys.length := by omega
        have hn2 : ¬ ((n : Int) ≥ ys.length) := by omega
        have hn3 : (0 : Int) ≤ n := by omega
        have hk1 : (k : Int) < xs.length := by omega
        have hk3 : (0 : Int) ≤ k := by omega
        go_wp2_with fail
        go_quiet (fail)
        go_wp2_with fail
        go_roundw
        case rel => exact ⟨k + 1, by omega, by go_num, by rw [He2.out]; go_num, hr1, hr2, below_drewN hb _⟩
        case measure => simp [intOf] <;> omega
      · have e1 := Hfn.out k hkk (by simpa using hm)
        have He1 := Lib.hid e1
        clear e1
        generalize ((xs.take k).filter fun x => decide ((x.n : Int) ≤ most)).length = n at *
        generalize xs[k] = x at *
        clear Hfa Hfn
        go_wp2_with fail
        go_roundw
        case rel => exact ⟨k + 1, by omega, by go_num, by rw [He1.out], hr1, hr2, hb⟩
        case measure => simp [intOf] <;> omega
    · obtain rfl : k = xs.length := by omega
      have hl := Hl.out
      rw [hl]
      clear hl Hfa Hfn
      go_wp2_with fail
      (refine (awake_any _).mono ?_; rintro e w9 ⟨rfl, hb9⟩; go_wp2_with fail; go_ret; exact ⟨rfl, by repeat (first | exact Below.refl _ _ | assumption | refine below_drewN ?_ _ | refine Below.drew ?_ | refine Below.alloc ?_ (Nat.le_refl _) _ | refine bal ?_ _ | refine bnext ?_ (by assumption))⟩)
end Go.Proofs.Yticfmhmkgcdhgaa
