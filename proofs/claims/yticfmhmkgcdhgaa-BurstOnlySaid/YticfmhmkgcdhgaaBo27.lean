/-
  jetsamlaw18's three closures; what burst.Only answers.
-/
import Derived.Test.YticfmhmkgcdhgaaBo23
import Derived.Test.YticfmhmkgcdhgaaBo16
import Derived.Test.YticfmhmkgcdhgaaBo26
set_option linter.unusedSimpArgs false
set_option linter.unusedVariables false
namespace Go.Proofs.Yticfmhmkgcdhgaa
open Go.RowKit

/-- Which of the three closures: what it tells of bytes. -/
def okV (f : Nat) (l : List UInt8) : Bool := if f = 22 then true else if f = 23 then decide (0 < l.length ∧ (l.getD 0 0).toNat % 2 = 0) else false
def okFs (f : Nat) : Prop := f = 22 ∨ f = 23 ∨ f = 24
theorem first_any (l : List UInt8) (A : Option Addr) (c : Nat) (w : World) (hl : l.length ≤ 10000) : Calls Try.prog 22 #[.slice A l.length c] w fun e w' => e = .returned (.bool true) ∧ Below w.heap.size w w' := by
  go_enter Try.func22, Try.ntmps22
  go_wp2_with fail
  go_ret
  exact ⟨rfl, Below.refl _ _⟩
theorem none_any (l : List UInt8) (A : Option Addr) (c : Nat) (w : World) (hl : l.length ≤ 10000) : Calls Try.prog 24 #[.slice A l.length c] w fun e w' => e = .returned (.bool false) ∧ Below w.heap.size w w' := by
  go_enter Try.func24, Try.ntmps24
  go_wp2_with fail
  go_ret
  exact ⟨rfl, Below.refl _ _⟩
theorem even_any (l : List UInt8) (A : Option Addr) (c : Nat) (w : World) (hr : Rd w A (bv l)) (hl : l.length ≤ 10000) : Calls Try.prog 23 #[.slice A l.length c] w fun e w' => e = .returned (.bool (decide (0 < l.length ∧ (l.getD 0 0).toNat % 2 = 0))) ∧ Below w.heap.size w w' := by
  cases l with
  | nil =>
    clear hr
    go_enter Try.func23, Try.ntmps23
    go_wp2_with fail
    go_ret
    exact ⟨rfl, Below.refl _ _⟩
  | cons x l =>
    obtain ⟨b, o, rfl, hcell⟩ := hr.at_ (j := 0) (by simp [bv])
    have e2 : (bv (x :: l))[0]'(by simp [bv]) = .int .u8 (x.toNat : Int) := rfl
    rw [e2, Nat.add_zero] at hcell
    have hx := x.toNat_lt
    have e3 : ((x :: l).getD 0 0).toNat = x.toNat := rfl
    have hp : 0 < (x :: l).length := by simp
    rw [e3, show decide (0 < (x :: l).length ∧ x.toNat % 2 = 0) = decide (x.toNat % 2 = 0) from by simp]
    clear e2 e3 hr
    generalize (x :: l).length = n at *
    generalize x.toNat = y at *
    have hn : (n : Int) > 0 := by omega
    by_cases hy : y % 2 = 0
    · have h2 : ((y : Int) % 2 == 0) = true := by rw [beq_iff_eq]; omega
      rw [decide_eq_true hy]
      go_enter Try.func23, Try.ntmps23
      go_wp2_with fail
      go_ret
      exact ⟨rfl, Below.refl _ _⟩
    · have h2 : ((y : Int) % 2 == 0) = false := by rw [beq_eq_false_iff_ne]; omega
      rw [decide_eq_false hy]
      go_enter Try.func23, Try.ntmps23
      go_wp2_with fail
      go_ret
      exact ⟨rfl, Below.refl _ _⟩
theorem ok_any (f : Nat) (hf : okFs f) (l : List UInt8) (A : Option Addr) (c : Nat) (w : World) (hr : Rd w A (bv l)) (hl : l.length ≤ 10000) : Calls Try.prog f #[.slice A l.length c] w fun e w' => e = .returned (.bool (okV f l)) ∧ Below w.heap.size w w' := by
  rcases hf with rfl | rfl | rfl
  · exact first_any l A c w hl
  · exact even_any l A c w hr hl
  · exact none_any l A c w hl

/-- What a burst makes of bytes. -/
def outB (bs : List UInt8) (x : B3) : List UInt8 := Crc.burstB bs x.a x.n x.p
theorem outB_length (bs : List UInt8) (x : B3) : (outB bs x).length = bs.length := Crc.burstB_length _ _ _ _
/-- Those with which bytes are right. -/
def Hs (f : Nat) (bs : List UInt8) (pre : List (BX (8 * bs.length))) : List (BX (8 * bs.length)) := pre.filter fun x => okV f (outB bs x.1)
theorem Hs_snoc_yes (f : Nat) (bs : List UInt8) (pre : List (BX (8 * bs.length))) (x : BX (8 * bs.length)) (h : okV f (outB bs x.1) = true) : Hs f bs (pre ++ [x]) = Hs f bs pre ++ [x] := by
  simp [Hs, List.filter_append, h]
theorem Hs_snoc_no (f : Nat) (bs : List UInt8) (pre : List (BX (8 * bs.length))) (x : BX (8 * bs.length)) (h : okV f (outB bs x.1) = false) : Hs f bs (pre ++ [x]) = Hs f bs pre := by
  simp [Hs, List.filter_append, h]
theorem Hs_prefix (f : Nat) (bs : List UInt8) {pre l : List (BX (8 * bs.length))} (h : pre <+: l) : (Hs f bs pre).length ≤ (Hs f bs l).length := by
  obtain ⟨t, rfl⟩ := h
  simp [Hs, List.filter_append]
theorem RdT.sole (W : World) (t : TypeId) (x : B3) : RdT (W.alloc (.cells #[.int .i64 x.a, .int .i64 x.n, .int .i64 x.p] t)) (some ⟨W.heap.size, 0, none⟩) [⟨x.a, x.n, x.p⟩] := by
  have h := heap_alloc_last W (.cells #[.int .i64 x.a, .int .i64 x.n, .int .i64 x.p] t)
  intro j y hy
  cases j with
  | zero =>
    simp at hy
    subst hy
    exact ⟨_, 0, rfl, by rw [cell_of_row _ _ _ _ _ _ h]; rfl, by rw [cell_of_row _ _ _ _ _ _ h]; rfl, by rw [cell_of_row _ _ _ _ _ _ h]; rfl⟩
  | succ j => simp at hy
/-- Apply of one burst that may be. -/
theorem Apply_one (bs : List UInt8) (A : Option Addr) (c : Nat) (x : BX (8 * bs.length)) (w : World) (hr : Rd w A (bv bs)) (hl : bs.length ≤ 1000) (hn : A = none → bs.length = 0 ∧ c = 0) {H : Nat} (hH : w.heap.size = H) :
    Calls Try.prog 18 #[.slice A bs.length c, .slice (some ⟨H, 0, none⟩) 1 1] (w.alloc (.cells #[.int .i64 x.1.a, .int .i64 x.1.n, .int .i64 x.1.p] 28)) fun e w' => Below w.heap.size w w' ∧
      ∃ g cap cs, e = .returned (.tuple #[.slice (some ⟨g, 0, none⟩) bs.length cap, .int .i64 0]) ∧ w.heap.size ≤ g ∧ bs.length ≤ cap ∧ w'.heap[g]? = some (.cells cs 5 (0, 0)) ∧ Rd w' (some ⟨g, 0, none⟩) (bv (outB bs x.1)) := by
  subst hH
  obtain ⟨h1, h2, h3, h4⟩ := x.2
  have hn0 : 0 < x.1.n := by rw [← h1]; exact Crc.bl_pos _ (by omega)
  have hn16 : x.1.n ≤ 16 := by rw [← h1]; exact Crc.bl_le _ _ h2
  have hpos : 0 < bs.length := by omega
  have hb0 : Below w.heap.size w (w.alloc (.cells #[.int .i64 x.1.a, .int .i64 x.1.n, .int .i64 x.1.p] 28)) := bal (Below.refl _ _) _
  have hbad : badX bs.length ⟨x.1.a, x.1.n, x.1.p⟩ = false := (ok_ck bs.length x.1 x.2).1
  refine (Apply_any bs A c [⟨x.1.a, x.1.n, x.1.p⟩] (some ⟨w.heap.size, 0, none⟩) 1 _ (hr.below hb0) hl hn (RdT.sole w _ x.1) (by intro y hy; simp at hy; subst hy; unfold okT; simp; omega) (by simp)).mono ?_
  rintro e w' ⟨hb, ⟨hbd, -⟩ | ⟨-, v, rfl, hown⟩⟩
  · simp [hbad] at hbd
  · refine ⟨hb0.trans (belowDown hb (by simp)), ?_⟩
    have ho := hown.out
    have e2 : apL bs [⟨x.1.a, x.1.n, x.1.p⟩] = outB bs x.1 := by simp [apL, outB]
    rw [e2] at ho
    rcases ho.2 with ⟨-, h0⟩ | ⟨g, cap, cur, rfl, hg, hgg, -⟩
    · omega
    · obtain ⟨A9, c9, e9, hc9, hr9⟩ := own_rd ho
      injection e9 with e1 e2 e3
      subst e1 e3
      exact ⟨g, cap, cur, rfl, by simp at hg; omega, hc9, hgg, hr9⟩
end Go.Proofs.Yticfmhmkgcdhgaa
