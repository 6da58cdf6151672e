/-
  jetsamref11.May.
-/
import Derived.Test.YtikgpohoggpldaaRefRd2
namespace Go.Proofs.Ytikgpohoggpldaa
open Go.RowKit

def loN (n : Nat → Int) : Nat → Int
  | 0 => 1
  | 1 => 1
  | 2 => 4
  | 3 => 16
  | 4 => n 3
  | _ => 0
def hiN : Nat → Int
  | 0 => 1048575
  | 1 => 8
  | 2 => 32
  | 3 => 65535
  | 4 => 65535
  | 5 => 16777215
  | 6 => 16777215
  | _ => 68719476735
def mayN (n : Nat → Int) : Bool := mayB (n 0) (n 1) (n 2) (n 3) (n 4) (n 5) (n 6) (n 7)
theorem mayN_low (n : Nat → Int) (k : Nat) (hk : k < 8) (h : n k < loN n k ∨ n k > hiN k) : mayN n = false := by
  unfold mayN mayB
  simp only [Bool.and_eq_false_iff, decide_eq_false_iff_not, Bool.or_eq_false_iff]
  match k, hk with
  | 0, _ => simp only [loN, hiN] at h; omega
  | 1, _ => simp only [loN, hiN] at h; omega
  | 2, _ => simp only [loN, hiN] at h; omega
  | 3, _ => simp only [loN, hiN] at h; omega
  | 4, _ => simp only [loN, hiN] at h; omega
  | 5, _ => simp only [loN, hiN] at h; omega
  | 6, _ => simp only [loN, hiN] at h; omega
  | 7, _ => simp only [loN, hiN] at h; omega
  | k + 8, h => omega
theorem mayN_all (n : Nat → Int) (h : ∀ k, k < 8 → loN n k ≤ n k ∧ n k ≤ hiN k) : mayN n = (n 5 == 0 || n 6 == 0 || decide (n 5 ≤ n 6)) := by
  have h0 := h 0 (by omega)
  have h1 := h 1 (by omega)
  have h2 := h 2 (by omega)
  have h3 := h 3 (by omega)
  have h4 := h 4 (by omega)
  have h5 := h 5 (by omega)
  have h6 := h 6 (by omega)
  have h7 := h 7 (by omega)
  simp only [loN, hiN] at h0 h1 h2 h3 h4 h5 h6 h7
  unfold mayN mayB
  rw [decide_eq_true h0, decide_eq_true h1, decide_eq_true h2, decide_eq_true h3, decide_eq_true h4, decide_eq_true h5, decide_eq_true h6, decide_eq_true h7]
  simp
theorem lo_at (n : Nat → Int) : ∀ k, k < 8 → (#[Value.int .i64 1, .int .i64 1, .int .i64 4, .int .i64 16, .int .i64 (n 3), .int .i64 0, .int .i64 0, .int .i64 0])[k]? = some (.int .i64 (loN n k))
  | 0, _ => rfl
  | 1, _ => rfl
  | 2, _ => rfl
  | 3, _ => rfl
  | 4, _ => rfl
  | 5, _ => rfl
  | 6, _ => rfl
  | 7, _ => rfl
  | k + 8, h => by omega
theorem hi_at : ∀ k, k < 8 → (#[Value.int .i64 1048575, .int .i64 8, .int .i64 32, .int .i64 65535, .int .i64 65535, .int .i64 16777215, .int .i64 16777215, .int .i64 68719476735])[k]? = some (.int .i64 (hiN k))
  | 0, _ => rfl
  | 1, _ => rfl
  | 2, _ => rfl
  | 3, _ => rfl
  | 4, _ => rfl
  | 5, _ => rfl
  | 6, _ => rfl
  | 7, _ => rfl
  | k + 8, h => by omega

set_option maxHeartbeats 1000000 in
theorem May_any (n s : Nat → Int) (w : World) :
    Calls Try.prog 16 #[.agg (ofV (n 0) (n 1) (n 2) (n 3) (n 4) (n 5) (n 6) (n 7) s)] w fun e w' => e = .returned (.bool (mayN n)) ∧ Below w.heap.size w w' := by
  obtain ⟨w3, hw3, hb3, hG, hL, hM⟩ : ∃ w3, ((w.alloc (.cells (ofV (n 0) (n 1) (n 2) (n 3) (n 4) (n 5) (n 6) (n 7) s) 46)).alloc (.cells #[.int .i64 1, .int .i64 1, .int .i64 4, .int .i64 16, .int .i64 (n 3), .int .i64 0, .int .i64 0, .int .i64 0] 3)).alloc (.cells #[.int .i64 1048575, .int .i64 8, .int .i64 32, .int .i64 65535, .int .i64 65535, .int .i64 16777215, .int .i64 16777215, .int .i64 68719476735] 3) = w3 ∧
      Below w.heap.size w w3 ∧ RfAt w3 w.heap.size n s ∧ w3.heap[w.heap.size + 1]? = some (.cells #[.int .i64 1, .int .i64 1, .int .i64 4, .int .i64 16, .int .i64 (n 3), .int .i64 0, .int .i64 0, .int .i64 0] 3 (0, 0)) ∧ w3.heap[w.heap.size + 2]? = some (.cells #[.int .i64 1048575, .int .i64 8, .int .i64 32, .int .i64 65535, .int .i64 65535, .int .i64 16777215, .int .i64 16777215, .int .i64 68719476735] 3 (0, 0)) :=
    ⟨_, rfl, by repeat (first | exact Below.refl _ _ | assumption | refine below_drewN ?_ _ | refine Below.drew ?_ | refine Below.alloc ?_ (Nat.le_refl _) _ | refine bal ?_ _ | refine bnext ?_ (by assumption)), hrow_alloc (hrow_alloc (heap_alloc_last w _) _) _, hrow_alloc (heap_alloc2_new w _ _) _, by have := heap_alloc_last ((w.alloc (.cells (ofV (n 0) (n 1) (n 2) (n 3) (n 4) (n 5) (n 6) (n 7) s) 46)).alloc (.cells #[.int .i64 1, .int .i64 1, .int .i64 4, .int .i64 16, .int .i64 (n 3), .int .i64 0, .int .i64 0, .int .i64 0] 3)) (.cells #[.int .i64 1048575, .int .i64 8, .int .i64 32, .int .i64 65535, .int .i64 65535, .int .i64 16777215, .int .i64 16777215, .int .i64 68719476735] 3); simpa using this⟩
  simp only [ofV] at hw3 ⊢
  go_enter Try.func16, Try.ntmps16
  go_upto_region 3 with fail
  try rw [hw3]
  clear hw3
  obtain ⟨G, hGe⟩ : ∃ G, w.heap.size = G := ⟨_, rfl⟩
  rw [hGe] at hG hL hM ⊢
  have HGe := Lib.hid hGe
  have Hg := Lib.hid hG
  have Hl := Lib.hid hL
  have Hm := Lib.hid hM
  have Hb := Lib.hid hb3
  clear hG hL hM hb3 hGe
  go_wp2_with fail
  go_loopw [5] (fun kv wr => ∃ k : Nat, k ≤ 8 ∧ kv = .int .i64 k ∧ Hid (∀ j, j < k → loN n j ≤ n j ∧ n j ≤ hiN j) ∧ Hid (Below w.heap.size w wr) ∧ Hid (RfAt wr G n s) ∧ Hid (wr.heap[G + 1]? = some (.cells #[.int .i64 1, .int .i64 1, .int .i64 4, .int .i64 16, .int .i64 (n 3), .int .i64 0, .int .i64 0, .int .i64 0] 3 (0, 0))) ∧ Hid (wr.heap[G + 2]? = some (.cells #[.int .i64 1048575, .int .i64 8, .int .i64 32, .int .i64 65535, .int .i64 65535, .int .i64 16777215, .int .i64 16777215, .int .i64 68719476735] 3 (0, 0)))) (fun kv _ => 8 - (intOf kv).toNat)
  case atStart => exact ⟨0, by omega, rfl, fun j h => by omega, Hb, Hg, Hl, Hm⟩
  case round =>
    clear Hg Hl Hm Hb
    obtain ⟨k, hk, rfl, HK, Hb, Hg, Hl, Hm⟩ := hrel
    by_cases hkk : k < 8
    · have C0 : wr.cell? ⟨G, k, none⟩ = some (.int .i64 (n k)) := Hg.out.cellN k hkk
      have C1 : wr.cell? ⟨G + 1, k, none⟩ = some (.int .i64 (loN n k)) := (cell_of_row wr _ _ _ _ _ Hl.out).trans (lo_at n k hkk)
      have C2 : wr.cell? ⟨G + 2, k, none⟩ = some (.int .i64 (hiN k)) := (cell_of_row wr _ _ _ _ _ Hm.out).trans (hi_at k hkk)
      have HN := Lib.hid (mayN_low n k hkk)
      have HS : Hid (loN n k ≤ n k ∧ n k ≤ hiN k → ∀ j, j < k + 1 → loN n j ≤ n j ∧ n j ≤ hiN j) := by
        intro h j hj
        by_cases hjk : j = k
        · subst hjk; exact h
        · exact HK.out j (by omega)
      clear HK
      generalize hx : n k = x at *
      generalize loN n k = a at *
      generalize hiN k = b at *
      clear hx
      by_cases h1 : x < a
      · have hm : Hid (mayN n = false) := HN.out (.inl h1)
        have hd : decide (x < a) = true := decide_eq_true h1
        go_wp2_with fail
        go_quiet (fail)
        go_wp2_with fail
        go_ret
        exact ⟨ret_bool hm.out.symm, below_drewN Hb.out _⟩
      · have hd : decide (x < a) = false := decide_eq_false h1
        by_cases h2 : b < x
        · have hm : Hid (mayN n = false) := HN.out (.inr h2)
          have hd2 : decide (b < x) = true := decide_eq_true h2
          go_wp2_with fail
          go_quiet (fail)
          go_wp2_with fail
          go_ret
          exact ⟨ret_bool hm.out.symm, below_drewN Hb.out _⟩
        · have hd2 : decide (b < x) = false := decide_eq_false h2
          have hs := Lib.hid (HS.out ⟨by omega, by omega⟩)
          go_wp2_with fail
          go_quiet (fail)
          go_wp2_with fail
          go_roundw
          case rel => exact ⟨k + 1, by omega, by go_num, hs, below_drewN Hb.out _, Hg.out, Hl.out, Hm.out⟩
          case measure => simp [intOf] <;> omega
    · obtain rfl : k = 8 := by omega
      have HA := Lib.hid (mayN_all n HK.out)
      have C5 : wr.cell? ⟨G, 5, none⟩ = some (.int .i64 (n 5)) := Hg.out.cellN 5 (by omega)
      have C6 : wr.cell? ⟨G, 6, none⟩ = some (.int .i64 (n 6)) := Hg.out.cellN 6 (by omega)
      clear HK
      generalize n 5 = x at *
      generalize n 6 = y at *
      by_cases hx : x = 0
      · have HA1 : Hid (mayN n = true) := by rw [HA.out, hx]; rfl
        go_wp2_with fail
        go_ret
        exact ⟨ret_bool HA1.out.symm, Hb.out⟩
      · by_cases hy : y = 0
        · have HA1 : Hid (mayN n = true) := by show _ = _; rw [HA.out, hy]; simp
          go_wp2_with fail
          go_ret
          exact ⟨ret_bool HA1.out.symm, Hb.out⟩
        · go_wp2_with fail
          go_ret
          exact ⟨ret_bool HA.out.symm, Hb.out⟩
end Go.Proofs.Ytikgpohoggpldaa
