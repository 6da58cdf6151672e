/-
  info.big: the lowest bytes of a number.
-/
import Derived.Test.YtikgpohoggpldaaConcat
namespace Go.Proofs.Ytikgpohoggpldaa
open Go.RowKit

/-- The k lowest bytes of a number, the highest one first. -/
def lowB (n : Int) : Nat → List Nat
  | 0 => []
  | k + 1 => (n / 2 ^ (8 * k) % 256).toNat :: lowB n k
theorem lowB_length (n : Int) : ∀ k, (lowB n k).length = k
  | 0 => rfl
  | k + 1 => by rw [lowB, List.length_cons, lowB_length n k]
theorem lowB_lt (n : Int) : ∀ k, ∀ x ∈ lowB n k, x < 256
  | 0, x, h => by cases h
  | k + 1, x, h => by
    rcases List.mem_cons.1 h with rfl | h
    · have h1 := Int.emod_lt_of_pos (n / 2 ^ (8 * k)) (show (0 : Int) < 256 by omega)
      have h2 := Int.emod_nonneg (n / 2 ^ (8 * k)) (show (256 : Int) ≠ 0 by omega)
      omega
    · exact lowB_lt n k x h
/-- The cells at round k. -/
def bgC (n : Int) (b k : Nat) : List Value := List.replicate (b - k) (.int .u8 0) ++ nv8 (lowB n k)
theorem bgC_set (n : Int) (b k : Nat) (h : k < b) : (bgC n b k).set (b - 1 - k) (.int .u8 (n / 2 ^ (8 * k) % 256)) = bgC n b (k + 1) := by
  unfold bgC
  have e : b - k = (b - (k + 1)) + 1 := by omega
  have e2 : b - 1 - k = b - (k + 1) := by omega
  rw [e2, e, List.replicate_succ', List.append_assoc, List.set_append_right _ _ (by simp), List.length_replicate, Nat.sub_self]
  show _ ++ (Value.int .u8 (n / 2 ^ (8 * k) % 256) :: nv8 (lowB n k)) = _
  congr 1
  have h1 := Int.emod_nonneg (n / 2 ^ (8 * k)) (show (256 : Int) ≠ 0 by omega)
  have h2 : (((n / 2 ^ (8 * k) % 256).toNat : Nat) : Int) = n / 2 ^ (8 * k) % 256 := Int.toNat_of_nonneg h1
  simp only [lowB, nv8, List.map_cons]
  rw [h2]
theorem bgC_length (n : Int) (b k : Nat) (h : k ≤ b) : (bgC n b k).length = b := by
  unfold bgC; rw [List.length_append, List.length_replicate, nv8_length, lowB_length]; omega
theorem own_block {w : World} {base : Nat} {e : TypeId} {H n cap : Nat} {xs : List Value} (h : w.ownsRow base e 1 (.slice (some ⟨H, 0, none⟩) n cap) n xs) :
    ∃ cur : Array Value, w.heap[H]? = some (.cells cur e (0, 0)) ∧ cur.toList.take n = xs ∧ n ≤ cap ∧ cap ≤ maxLen ∧ cur.size = cap := by
  rcases h.2 with ⟨e, -⟩ | ⟨g, cap', cur, e, hb, hg, hn, hm, hs, ht⟩
  · injection e with e; cases e
  · injection e with e1 e2 e3
    injection e1 with e1
    injection e1 with e1
    subst e1 e3
    exact ⟨cur, hg, by simpa using ht, hn, hm, by simpa using hs⟩

set_option maxHeartbeats 1000000 in
theorem big_any (n : Int) (b : Nat) (hb0 : 0 < b) (hb8 : b ≤ 8) (w : World) :
    Calls Try.prog 28 #[.int .i64 n, .int .i64 b] w fun e w' => ∃ v, e = .returned v ∧ Hid (w'.ownsRow w.heap.size 5 1 v b (nv8 (lowB n b))) ∧ Below w.heap.size w w' := by
  obtain ⟨i, hi, hz0, hz1, hz2⟩ := info_parts info_u8
  have hgC0 : Hid ((madeCells (Value.int .u8 0).cells (b * 1)).toList = bgC n b 0) := by
    show _ = _
    rw [Nat.mul_one]
    simp only [bgC, lowB, nv8, madeCells, List.map_nil, List.append_nil, Nat.sub_zero, Array.toList_map, Array.toList_range]
    apply List.ext_getElem
    · simp
    · intro j h1 h2
      simp only [List.getElem_map, List.getElem_replicate]
      show (#[Value.int .u8 0])[_ % 1]! = _
      rw [Nat.mod_one]; rfl
  go_enter Try.func28, Try.ntmps28
  go_wp2_with (refine wpList_make_full w rfl _ _ 41 rfl w.heap.size 5 i (.int .u8 0) 1 Try.underlying41 hi hz0 hz1 _ _ _ _ b rfl rfl rfl rfl (by rw [hz2]; omega) (by unfold maxLen; omega) (Nat.le_refl _) ?_; intro w1 hown1 hgr1)
  have hb1 : Below w.heap.size w w1 := (Below.refl _ _).grown hgr1 (Nat.le_refl _) (fun k hk => by cases hk)
  obtain ⟨cur, hg1, ht1, -, -, hs1⟩ := own_block hown1
  have Hg : Hid (w1.heap[w.heap.size]? = some (.cells (bgC n b 0).toArray 5 (0, 0))) := by
    show _ = _
    rw [hg1, ← hgC0.out, ← ht1, List.take_of_length_le (by simp [hs1])]
  have Hb1 := Lib.hid hb1
  clear hown1 hgr1 hgC0 hg1 ht1 hs1 hi hz0 hz1 hz2 hb1
  obtain ⟨H, hH⟩ : ∃ H, w.heap.size = H := ⟨_, rfl⟩
  rw [hH] at Hg ⊢
  have HH := Lib.hid hH
  clear hH
  go_loopw [11] (fun iv wr => ∃ k : Nat, k ≤ b ∧ iv = .int .i64 k ∧ Hid (wr.heap[H]? = some (.cells (bgC n b k).toArray 5 (0, 0))) ∧ Hid (Below w.heap.size w wr)) (fun iv _ => b - (intOf iv).toNat)
  case atStart => exact ⟨0, by omega, rfl, Hg, Hb1⟩
  case round =>
    clear Hg Hb1
    obtain ⟨k, hk, rfl, Hg, Hb⟩ := hrel
    by_cases hkk : k < b
    · have hl := bgC_length n b k hk
      have hj : b - 1 - k < (bgC n b k).length := by omega
      have hcell : wr.cell? ⟨H, b - 1 - k, none⟩ = some ((bgC n b k)[b - 1 - k]) := by
        rw [cell_of_row wr H _ _ _ _ Hg.out]; simp [hj]
      have hfr : wr.frozen? ⟨H, b - 1 - k, none⟩ = false := frozen_of_row wr H _ _ _ Hg.out
      have Hg2 : Hid ((wr.setCell ⟨H, b - 1 - k, none⟩ (.int .u8 (n / 2 ^ (8 * k) % 256))).heap[H]? = some (.cells (bgC n b (k + 1)).toArray 5 (0, 0))) :=
        hrow_set Hg.out (by rw [← bgC_set n b k hkk]; simp)
      have Hb2 : Hid (Below w.heap.size w (wr.setCell ⟨H, b - 1 - k, none⟩ (.int .u8 (n / 2 ^ (8 * k) % 256)))) := Hb.out.setCell (by rw [HH.out]; exact Nat.le_refl _) _
      generalize (bgC n b k)[b - 1 - k] = old at *
      clear hl hj
      go_wp2_with fail
      go_roundw
      case rel => exact ⟨k + 1, by omega, by go_num, Hg2, Hb2⟩
      case measure => simp [intOf] <;> omega
    · obtain rfl : k = b := by omega
      have Ho : Hid (wr.ownsRow H 5 1 (.slice (some ⟨H, 0, none⟩) k k) k (nv8 (lowB n k))) := by
        have e : bgC n k k = nv8 (lowB n k) := by simp [bgC]
        have hl : (nv8 (lowB n k)).length = k := by rw [nv8_length, lowB_length]
        refine ⟨by omega, .inr ⟨H, k, _, rfl, Nat.le_refl _, Hg.out, Nat.le_refl _, by unfold maxLen; omega, ?_, ?_⟩⟩
        · rw [e, List.size_toArray]; omega
        · rw [e, List.take_of_length_le (by simp [hl])]
      go_wp2_with fail
      go_ret
      exact ⟨_, rfl, by rw [HH.out]; exact Ho, Hb.out⟩
end Go.Proofs.Ytikgpohoggpldaa
