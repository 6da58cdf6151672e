/-
  Read of Write and Write of Read: plain; info.Read of any bytes.
-/
import Derived.Test.YtikgpohoggpldaaWrites2
namespace Go.Proofs.Ytikgpohoggpldaa
open Go.RowKit

theorem lowB_of (l : List Nat) (h : ∀ x ∈ l, x < 256) (n : Int) (hn : n = natN l) : lowB n l.length = l := by
  apply natN_inj _ _ (lowB_length _ _) (lowB_lt _ _) h
  have h1 := natN_lowB n l.length
  have h2 := natN_lt l h
  subst hn
  rw [Int.emod_eq_of_lt (Int.natCast_nonneg _) (Int.ofNat_lt.2 h2)] at h1
  exact Int.ofNat.inj h1
theorem part5 (a b c d e f : List Nat) (ha : a.length = 2) (hb : b.length = 2) (hc : c.length = 3) (hd : d.length = 3) (he : e.length = 8) :
    (a ++ (b ++ (c ++ (d ++ (e ++ f))))).take 2 = a ∧ ((a ++ (b ++ (c ++ (d ++ (e ++ f))))).drop 2).take 2 = b ∧ ((a ++ (b ++ (c ++ (d ++ (e ++ f))))).drop 4).take 3 = c ∧ ((a ++ (b ++ (c ++ (d ++ (e ++ f))))).drop 7).take 3 = d ∧
      ((a ++ (b ++ (c ++ (d ++ (e ++ f))))).drop 10).take 8 = e ∧ (a ++ (b ++ (c ++ (d ++ (e ++ f))))).drop 18 = f := by
  match a, ha with
  | [a0, a1], _ =>
  match b, hb with
  | [b0, b1], _ =>
  match c, hc with
  | [c0, c1, c2], _ =>
  match d, hd with
  | [d0, d1, d2], _ =>
  match e, he with
  | [e0, e1, e2, e3, e4, e5, e6, e7], _ => exact ⟨rfl, rfl, rfl, rfl, rfl, rfl⟩
theorem wrB_form (mn mx mf xf R : Int) (s : Nat → Int) : wrB mn mx mf xf R s = lowB mn 2 ++ (lowB mx 2 ++ (lowB mf 3 ++ (lowB xf 3 ++ (lowB R 8 ++ s16L s)))) := by
  simp [wrB, s16L]
theorem wrB_lt (mn mx mf xf R : Int) (s : Nat → Int) (hs : ∀ i, i < 16 → 0 ≤ s i ∧ s i < 256) : ∀ x ∈ wrB mn mx mf xf R s, x < 256 := by
  intro x hx
  rw [wrB_form] at hx
  simp only [List.mem_append] at hx
  rcases hx with h | h | h | h | h | h
  any_goals exact lowB_lt _ _ x h
  simp only [s16L, List.mem_map, List.mem_range] at h
  obtain ⟨i, hi, rfl⟩ := h
  have := hs i hi
  omega
theorem wrB_length (mn mx mf xf R : Int) (s : Nat → Int) : (wrB mn mx mf xf R s).length = 34 := by
  rw [wrB_form]; simp [lowB_length, s16L_length]
/-- Read of Write. -/
theorem read_write (n s : Nat → Int) (hm : mayN n = true) (hs : ∀ i, i < 16 → 0 ≤ s i ∧ s i < 256) (R : Int) (hR : R % 18446744073709551616 = restN (n 0) (n 1) (n 2) (n 7) % 18446744073709551616) :
    rV (wrB (n 3) (n 4) (n 5) (n 6) R s) = ofV (n 0) (n 1) (n 2) (n 3) (n 4) (n 5) (n 6) (n 7) s ∧ rMay (wrB (n 3) (n 4) (n 5) (n 6) R s) = true := by
  obtain ⟨b0, b1, b2, b3, b4, b5, b6, b7⟩ := mayB_true hm
  obtain ⟨h1, h2, h3, h4, h5, h6⟩ := part5 (lowB (n 3) 2) (lowB (n 4) 2) (lowB (n 5) 3) (lowB (n 6) 3) (lowB R 8) (s16L s) (lowB_length _ _) (lowB_length _ _) (lowB_length _ _) (lowB_length _ _) (lowB_length _ _)
  rw [← wrB_form] at h1 h2 h3 h4 h5 h6
  have w0 := natN_lowB (n 3) 2
  have w1 := natN_lowB (n 4) 2
  have w2 := natN_lowB (n 5) 3
  have w3 := natN_lowB (n 6) 3
  have w4 := natN_lowB R 8
  simp only [Nat.reducePow] at w0 w1 w2 w3 w4
  generalize hl : wrB (n 3) (n 4) (n 5) (n 6) R s = l at *
  have g0 : ((rMn l : Nat) : Int) = n 3 := by unfold rMn; rw [h1]; omega
  have g1 : ((rMx l : Nat) : Int) = n 4 := by unfold rMx; rw [h2]; omega
  have g2 : ((rMf l : Nat) : Int) = n 5 := by unfold rMf; rw [h3]; omega
  have g3 : ((rXf l : Nat) : Int) = n 6 := by unfold rXf; rw [h4]; omega
  have g4 : rR l = natN (lowB R 8) := by unfold rR; rw [h5]
  unfold restN at hR
  have g5 : ((rP0 l : Nat) : Int) = n 0 := by unfold rP0; rw [g4]; omega
  have g6 : ((rP1 l : Nat) : Int) = n 1 := by unfold rP1; rw [g4]; omega
  have g7 : ((rP2 l : Nat) : Int) = n 2 := by unfold rP2; rw [g4]; omega
  have g8 : ((rTt l : Nat) : Int) = n 7 := by unfold rTt; rw [g4]; omega
  have g9 : ∀ i, i < 16 → rS l i = s i := by
    intro i hi
    unfold rS
    have e : l.getD (18 + i) 0 = (l.drop 18).getD i 0 := by rw [List.getD_eq_getElem?_getD, List.getD_eq_getElem?_getD, List.getElem?_drop]
    rw [e, h6, List.getD_eq_getElem?_getD, List.getElem?_eq_getElem (by rw [s16L_length]; exact hi)]
    simp [s16L]
    have := hs i hi
    omega
  constructor
  · unfold rV
    rw [g0, g1, g2, g3, g5, g6, g7, g8]
    unfold ofV
    rw [g9 0 (by omega), g9 1 (by omega), g9 2 (by omega), g9 3 (by omega), g9 4 (by omega), g9 5 (by omega), g9 6 (by omega), g9 7 (by omega), g9 8 (by omega), g9 9 (by omega), g9 10 (by omega), g9 11 (by omega), g9 12 (by omega), g9 13 (by omega), g9 14 (by omega), g9 15 (by omega)]
  · unfold rMay
    rw [g0, g1, g2, g3, g5, g6, g7, g8]
    exact hm
/-- Write of Read. -/
theorem write_read (l : List Nat) (h : ∀ x ∈ l, x < 256) (hl : l.length = 34) (R : Int) (hR : R % 18446744073709551616 = restN (rP0 l) (rP1 l) (rP2 l) (rTt l) % 18446744073709551616) :
    wrB (rMn l) (rMx l) (rMf l) (rXf l) R (rS l) = l := by
  have hd : ∀ i k, ∀ x ∈ (l.drop i).take k, x < 256 := fun i k x hx => h x (List.mem_of_mem_drop (List.mem_of_mem_take hx))
  have q : ∀ i k, i + k ≤ 34 → ((l.drop i).take k).length = k := fun i k hik => by rw [List.length_take, List.length_drop]; omega
  have e0 := lowB_of ((l.drop 0).take 2) (hd 0 2) (rMn l : Nat) (by unfold rMn; rw [List.drop_zero])
  have e1 := lowB_of ((l.drop 2).take 2) (hd 2 2) (rMx l : Nat) rfl
  have e2 := lowB_of ((l.drop 4).take 3) (hd 4 3) (rMf l : Nat) rfl
  have e3 := lowB_of ((l.drop 7).take 3) (hd 7 3) (rXf l : Nat) rfl
  rw [q 0 2 (by omega)] at e0
  rw [q 2 2 (by omega)] at e1
  rw [q 4 3 (by omega)] at e2
  rw [q 7 3 (by omega)] at e3
  have hRr : R % 18446744073709551616 = rR l := by
    rw [hR]
    have hlt := rR_lt l h
    unfold restN rP0 rP1 rP2 rTt
    generalize rR l = r at *
    omega
  have e4 : lowB R 8 = (l.drop 10).take 8 := by
    apply natN_inj _ _ (by rw [lowB_length, q 10 8 (by omega)]) (lowB_lt _ _) (hd 10 8)
    have h1 := natN_lowB R 8
    simp only [Nat.reducePow] at h1
    have h2 : natN ((l.drop 10).take 8) = rR l := rfl
    rw [h2]
    omega
  have e5 : s16L (rS l) = l.drop 18 := by
    have h1 := list16 (l.drop 18) (by rw [List.length_drop]; omega)
    have h2 : ∀ i, (rS l i).toNat = (l.drop 18).getD i 0 := fun i => by
      unfold rS
      rw [List.getD_eq_getElem?_getD, List.getD_eq_getElem?_getD, List.getElem?_drop]; simp
    have h3 : s16L (rS l) = [(rS l 0).toNat, (rS l 1).toNat, (rS l 2).toNat, (rS l 3).toNat, (rS l 4).toNat, (rS l 5).toNat, (rS l 6).toNat, (rS l 7).toNat, (rS l 8).toNat, (rS l 9).toNat, (rS l 10).toNat, (rS l 11).toNat, (rS l 12).toNat, (rS l 13).toNat, (rS l 14).toNat, (rS l 15).toNat] := rfl
    rw [h3]
    simp only [h2]
    exact h1.symm
  rw [wrB_form, e0, e1, e2, e3, e4, e5, List.drop_zero]
  have a1 : (l.drop 10).take 8 ++ l.drop 18 = l.drop 10 := by
    have := List.take_append_drop 8 (l.drop 10)
    rwa [List.drop_drop] at this
  have a2 : (l.drop 7).take 3 ++ l.drop 10 = l.drop 7 := by
    have := List.take_append_drop 3 (l.drop 7)
    rwa [List.drop_drop] at this
  have a3 : (l.drop 4).take 3 ++ l.drop 7 = l.drop 4 := by
    have := List.take_append_drop 3 (l.drop 4)
    rwa [List.drop_drop] at this
  have a4 : (l.drop 2).take 2 ++ l.drop 4 = l.drop 2 := by
    have := List.take_append_drop 2 (l.drop 2)
    rwa [List.drop_drop] at this
  rw [a1, a2, a3, a4, List.take_append_drop]

def RdOk (l : List Nat) (V : Array Value) (k : Int) : Prop := (k = 0 ∧ l.length = 34 ∧ rMay l = true ∧ V = rV l) ∨ (k ≠ 0 ∧ V = zeroV)
theorem read_any (l : List Nat) (hl8 : ∀ x ∈ l, x < 256) (A : Option Addr) (c : Nat) (w : World) (hr : Rd w A (nv8 l)) (hc : l.length ≤ c) :
    Calls Try.prog 14 #[.slice A l.length c] w fun e w' => ∃ V k, e = .returned (.tuple #[.agg V, .int .i64 k]) ∧ RdOk l V k ∧ Below w.heap.size w w' := by
  rcases Nat.lt_or_ge l.length 34 with h | h
  · refine (read_short l h A c w).mono ?_
    rintro e w' ⟨rfl, hb⟩
    exact ⟨_, _, rfl, .inr ⟨by decide, rfl⟩, hb⟩
  rcases Nat.lt_or_ge 34 l.length with h2 | h2
  · refine (read_long l h2 A c w).mono ?_
    rintro e w' ⟨rfl, hb⟩
    exact ⟨_, _, rfl, .inr ⟨by decide, rfl⟩, hb⟩
  have e : l.length = 34 := by omega
  have hx := read_34 l hl8 e A c w hr (by omega)
  conv => arg 3; rw [e]
  refine hx.mono ?_
  rintro e' w' ⟨rfl, hb⟩
  cases hm : rMay l with
  | true => exact ⟨_, _, rfl, .inl ⟨rfl, e, hm, rfl⟩, hb⟩
  | false => exact ⟨_, _, rfl, .inr ⟨by decide, rfl⟩, hb⟩
end Go.Proofs.Ytikgpohoggpldaa
