/-
  jetsamlaw18.BurstTwice: its plain law and its walk.
-/
import Derived.Test.YticfmhmkgcdhgaaBo24
import Derived.Test.YticfmhmkgcdhgaaBo25
set_option linter.unusedSimpArgs false
set_option linter.unusedVariables false
namespace Go.Proofs.Yticfmhmkgcdhgaa
open Go.RowKit
open Crc (burstB dmg bl bk)

/-- A burst so many bits on. -/
def shB (M : Nat) (x : B3) : B3 := ⟨x.a + M, x.n, x.p⟩
theorem hit_pos (N C : Nat) (most : Int) (k : Nat) (h : hitC N C most k) (hk : k < N) : (hit N C most k).map (·.1) = [⟨N - k - bl (sumAt C k), bl (sumAt C k), sumAt C k⟩] := by
  unfold hit
  rw [dif_pos ⟨h, hk⟩]; rfl
theorem hit_neg (N C : Nat) (most : Int) (k : Nat) (h : ¬ hitC N C most k) : (hit N C most k).map (·.1) = [] := by
  unfold hit
  rw [dif_neg (fun h' => h h'.1)]; rfl
theorem hits_ahead (M N C : Nat) (most : Int) : ∀ k, k ≤ N → ((hits (M + N) C most k).map (·.1)).filter (fun x => decide (M ≤ x.a)) = ((hits N C most k).map (·.1)).map (shB M)
  | 0, _ => rfl
  | k + 1, hk => by
    rw [hits, hits, List.map_append, List.map_append, List.filter_append, List.map_append, hits_ahead M N C most k (by omega)]
    congr 1
    by_cases h : hitC N C most k
    · have h3 := h.2.2.1
      rw [hit_pos N C most k h (by omega), hit_pos (M + N) C most k ⟨h.1, h.2.1, by omega, h.2.2.2⟩ (by omega)]
      rw [List.filter_cons_of_pos (by simp; omega)]
      simp [shB]
      omega
    · rw [hit_neg N C most k h]
      by_cases h2 : hitC (M + N) C most k
      · have h4 : N - k < bl (sumAt C k) := by
          rcases Nat.lt_or_ge (N - k) (bl (sumAt C k)) with h3 | h3
          · exact h3
          · exact absurd ⟨h2.1, h2.2.1, h3, h2.2.2.2⟩ h
        have h5 := h2.2.2.1
        rw [hit_pos (M + N) C most k h2 (by omega)]
        simp
        omega
      · rw [hit_neg (M + N) C most k h2]; rfl
theorem hits_ahead2 (M N C : Nat) (most : Int) : ∀ j, j ≤ M → ((hits (M + N) C most (N + j)).map (·.1)).filter (fun x => decide (M ≤ x.a)) = ((hits N C most N).map (·.1)).map (shB M)
  | 0, _ => hits_ahead M N C most N (Nat.le_refl _)
  | j + 1, hj => by
    rw [← Nat.add_assoc, hits, List.map_append, List.filter_append, hits_ahead2 M N C most j (by omega)]
    have : ((hit (M + N) C most (N + j)).map (·.1)).filter (fun x => decide (M ≤ x.a)) = [] := by
      by_cases h2 : hitC (M + N) C most (N + j)
      · have h0 : sumAt C (N + j) ≠ 0 := by intro e; have := h2.1; rw [e] at this; omega
        have h1 := Crc.bl_pos _ h0
        have h3 := h2.2.2.1
        rw [hit_pos (M + N) C most (N + j) h2 (by omega)]
        simp
        omega
      · rw [hit_neg (M + N) C most (N + j) h2]; rfl
    rw [this, List.append_nil]
theorem allB_ahead (s b : List UInt8) (most : Int) (hs : crc16 0 s = 0) : (allB (s ++ b) most).filter (fun x => decide (8 * s.length ≤ x.a)) = (allB b most).map (shB (8 * s.length)) := by
  unfold allB allH
  have hC : crc16 0 (s ++ b) = crc16 0 b := by rw [crc16_append, hs]
  rw [hC]
  split
  · rfl
  · rw [List.length_append, show 8 * (s.length + b.length) = 8 * s.length + 8 * b.length from by omega]
    have := hits_ahead2 (8 * s.length) (8 * b.length) (crc16 0 b) most (8 * s.length) (Nat.le_refl _)
    rw [Nat.add_comm (8 * b.length)] at this
    exact this
theorem allB_ok (bs : List UInt8) (most : Int) : ∀ x ∈ allB bs most, okB (8 * bs.length) x := by
  intro x hx
  obtain ⟨y, -, rfl⟩ := List.mem_map.1 hx
  exact y.2
/-- A burst as three numbers. -/
def toT (x : B3) : T3 := ⟨x.a, x.n, x.p⟩
theorem ok_ck (m : Nat) (x : B3) (h : okB (8 * m) x) : badX m (toT x) = false ∧ okT (toT x) := by
  obtain ⟨h1, h2, h3, h4⟩ := h
  have hn0 : 0 < x.n := by rw [← h1]; exact Crc.bl_pos _ (by omega)
  have hn16 : x.n ≤ 16 := by rw [← h1]; exact Crc.bl_le _ _ h2
  constructor
  · show (ckE x.a x.n x.p m != 0) = false
    rw [bne_eq_false_iff_eq, ckE, if_neg]
    simp only [not_or, Int.toNat_natCast, h1]
    refine ⟨by omega, by omega, by omega, by simp, by omega, by omega, by omega⟩
  · show (x.p : Int) ≤ _
    omega
theorem apL_two (l : List UInt8) (x : B3) : apL l [toT x, toT x] = l := by
  simp only [apL, List.foldl_cons, List.foldl_nil, toT, Int.toNat_natCast]
  exact burst_twice _ _ _ _
theorem RdT.two (W : World) (t : TypeId) (x : B3) : RdT (W.alloc (.cells #[.int .i64 x.a, .int .i64 x.n, .int .i64 x.p, .int .i64 x.a, .int .i64 x.n, .int .i64 x.p] t)) (some ⟨W.heap.size, 0, none⟩) [toT x, toT x] := by
  have h : ∀ i, (W.alloc (.cells #[.int .i64 x.a, .int .i64 x.n, .int .i64 x.p, .int .i64 x.a, .int .i64 x.n, .int .i64 x.p] t)).cell? ⟨W.heap.size, i, none⟩ = (#[Value.int .i64 x.a, .int .i64 x.n, .int .i64 x.p, .int .i64 x.a, .int .i64 x.n, .int .i64 x.p] : Array Value)[i]? := fun i => cell_of_row _ _ _ _ _ _ (heap_alloc_last W _)
  intro j y hy
  refine ⟨_, _, rfl, ?_⟩
  match j with
  | 0 => cases hy; exact ⟨h _, h _, h _⟩
  | 1 => cases hy; exact ⟨h _, h _, h _⟩
  | j + 2 => simp at hy
end Go.Proofs.Yticfmhmkgcdhgaa
