/-
  jetsamref11.Of.
-/
import Derived.Test.YtikgpohoggpldaaInfOf
namespace Go.Proofs.Ytikgpohoggpldaa
open Go.RowKit

def arV (a b c d e : Int) : Array Value := #[.int .i64 a, .int .i64 b, .int .i64 c, .int .i64 d, .int .i64 e]
theorem arV_one (a b c d e : Int) : (arV a b c d e).all (·.oneCell') = true := by simp [arV, Value.oneCell']
def ArAt (w : World) (g : Nat) (a b c d e : Int) : Prop := w.heap[g]? = some (.cells (arV a b c d e) 31 (0, 0))
section
variable {w : World} {g : Nat} {a b c d e : Int}
theorem ArAt.cell (h : ArAt w g a b c d e) (i : Nat) (v : Value) (hv : (arV a b c d e)[i]? = some v) : w.cell? ⟨g, i, none⟩ = some v := by
  rw [cell_of_row w g i _ _ _ h]; exact hv
theorem ArAt.fr (h : ArAt w g a b c d e) (i : Nat) : w.frozen? ⟨g, i, none⟩ = false := frozen_of_row w g i _ _ h
theorem ArAt.alloc (h : ArAt w g a b c d e) (o : Obj) : ArAt (w.alloc o) g a b c d e := hrow_alloc h o
theorem ArAt.drew (h : ArAt w g a b c d e) : ArAt w.drew g a b c d e := h
theorem ArAt.drewN (h : ArAt w g a b c d e) (n : Nat) : ArAt (w.drewN n) g a b c d e := h
theorem ArAt.other (h : ArAt w g a b c d e) (x : Addr) (v : Value) (hx : g ≠ x.block) : ArAt (w.setCell x v) g a b c d e := (heap_setCell_other w x g v hx).trans h
theorem ArAt.set0 (h : ArAt w g a b c d e) (z : Int) : ArAt (w.setCell ⟨g, 0, none⟩ (.int .i64 z)) g z b c d e := hrow_set h rfl
theorem ArAt.set1 (h : ArAt w g a b c d e) (z : Int) : ArAt (w.setCell ⟨g, 1, none⟩ (.int .i64 z)) g a z c d e := hrow_set h rfl
theorem ArAt.set2 (h : ArAt w g a b c d e) (z : Int) : ArAt (w.setCell ⟨g, 2, none⟩ (.int .i64 z)) g a b z d e := hrow_set h rfl
theorem ArAt.set3 (h : ArAt w g a b c d e) (z : Int) : ArAt (w.setCell ⟨g, 3, none⟩ (.int .i64 z)) g a b c z e := hrow_set h rfl
theorem ArAt.set4 (h : ArAt w g a b c d e) (z : Int) : ArAt (w.setCell ⟨g, 4, none⟩ (.int .i64 z)) g a b c d z := hrow_set h rfl
theorem ArAt.new (hg : w.heap.size = g) : ArAt (w.alloc (.cells (arV a b c d e) 31)) g a b c d e := hg ▸ heap_alloc_last w _
theorem ArAt.lt (h : ArAt w g a b c d e) : g < w.heap.size := by
  rcases Nat.lt_or_ge g w.heap.size with h1 | h1
  · exact h1
  · unfold ArAt at h; rw [Array.getElem?_eq_none h1] at h; cases h
end

def mnR (n : Nat) (f : Nat → Int) : Nat → Int
  | 0 => 16
  | k + 1 => if k = 0 ∨ (k + 1 < n ∧ f k < mnR n f k) then mxI 16 (f k) else mnR n f k
def mfR (g : Nat → Int) : Nat → Int
  | 0 => 0
  | k + 1 => mfP g (k + 1)

set_option maxHeartbeats 4000000 in
theorem refOf_any (l : List (Int × Int)) (A1 A2 : Option Addr) (c1 c2 : Nat) (w : World) (hr1 : Rd w A1 (zv (l.map (·.1)))) (hr2 : Rd w A2 (zv (l.map (·.2)))) (hc1 : l.length ≤ c1) (hc2 : l.length ≤ c2) (hf : l.length ≤ 100) (hok : ∀ x ∈ l, okP x) :
    Calls Try.prog 11 #[.slice A1 l.length c1, .slice A2 l.length c2] w fun e w' => e = .returned (.agg (arV (mnR l.length (bk l) l.length) (mxP (bk l) l.length) (knI (mfR (by' l) l.length)) (knI (xfP (by' l) l.length)) (ttP (bk l) l.length))) ∧ Below w.heap.size w w' := by
  have Hr1 := Lib.hid hr1; clear hr1
  have Hr2 := Lib.hid hr2; clear hr2
  have Hok := Lib.hid hok; clear hok
  go_enter Try.func11, Try.ntmps11
  go_wp2_with fail
  obtain ⟨w3, hw3, hb3, hI, hR⟩ : ∃ w3, (w.alloc (.cells (arV 0 0 0 0 0) 31)).alloc (.cells (arV 16 16 0 0 0) 31) = w3 ∧ Below w.heap.size w w3 ∧ ArAt w3 (w.heap.size + 1) 16 16 0 0 0 ∧ ArAt w3 w.heap.size 0 0 0 0 0 :=
    ⟨_, rfl, by repeat (first | exact Below.refl _ _ | assumption | refine below_drewN ?_ _ | refine Below.drew ?_ | refine Below.alloc ?_ (Nat.le_refl _) _ | refine bal ?_ _ | refine bnext ?_ (by assumption)), ArAt.new (by simp), (ArAt.new rfl).alloc _⟩
  simp only [arV] at hw3
  rw [hw3]
  clear hw3
  have hBs : w.heap.size ≤ w.heap.size + 1 := by omega
  have hRB : w.heap.size ≠ w.heap.size + 1 := by omega
  have hBl : w.heap.size < w.heap.size + 1 := by omega
  generalize w.heap.size + 1 = B at *
  have hRs : w.heap.size ≤ w.heap.size := Nat.le_refl _
  go_loopw [7] (fun i wr => ∃ k : Nat, k ≤ l.length ∧ i = .int .i64 k ∧ Below w.heap.size w wr ∧ ArAt wr B (mnR l.length (bk l) k) (mxP (bk l) k) (mfR (by' l) k) (xfP (by' l) k) (ttP (bk l) k) ∧ ArAt wr w.heap.size 0 0 0 0 0) (fun i _ => l.length - (intOf i).toNat)
  case atStart =>
    exact ⟨0, by omega, rfl, hb3, hI, hR⟩
  case round =>
    clear hI hR hb3
    obtain ⟨k, hk, rfl, hb, hI, hR⟩ := hrel
    by_cases hkk : k < l.length
    · obtain ⟨b1, o1, rfl, hc1⟩ := Hr1.out k (.int .i64 (bk l k)) (by simp [zv, at_bk l k hkk])
      obtain ⟨b2, o2, rfl, hc2⟩ := Hr2.out k (.int .i64 (by' l k)) (by simp [zv, at_bk l k hkk])
      have hb1s := cell_lt hc1
      have hb2s := cell_lt hc2
      replace hc1 := (hb.cell (p := ⟨b1, o1 + k, none⟩) hb1s).trans hc1
      replace hc2 := (hb.cell (p := ⟨b2, o2 + k, none⟩) hb2s).trans hc2
      have hbB1 : b1 ≠ B := by omega
      have hbB2 : b2 ≠ B := by omega
      have Hm : Hid (mnR l.length (bk l) (k + 1) = if k = 0 ∨ (k + 1 < l.length ∧ bk l k < mnR l.length (bk l) k) then mxI 16 (bk l k) else mnR l.length (bk l) k) := rfl
      have Ha : Hid (mxP (bk l) (k + 1) = mxI (mxP (bk l) k) (bk l k)) := rfl
      have Hb : Hid (mfR (by' l) (k + 1) = mnI (if k = 0 then by' l k else mfR (by' l) k) (by' l k)) := by
        show _ = _
        by_cases h : k = 0
        · subst h; rfl
        · rw [if_neg h]; obtain ⟨j, rfl⟩ : ∃ j, k = j + 1 := ⟨k - 1, by omega⟩
          rfl
      have Hc : Hid (xfP (by' l) (k + 1) = mxI (xfP (by' l) k) (by' l k)) := rfl
      have Hd : Hid (ttP (bk l) (k + 1) = ttP (bk l) k + bk l k) := rfl
      obtain ⟨tn, ht1, ht2⟩ := ttP_nat Hok.out k (by omega)
      obtain ⟨o1', o2', -, -⟩ := Hok.out (bk l k, by' l k) (List.mem_of_getElem? (at_bk l k hkk))
      rw [ht1] at hI Hd
      clear ht1
      generalize mnR l.length (bk l) k = n0 at *
      generalize mxP (bk l) k = n1 at *
      generalize mfR (by' l) k = n2 at *
      generalize xfP (by' l) k = n3 at *
      generalize bk l k = x at *
      generalize by' l k = y at *
      simp only [] at o1' o2'
      have e1 : IntKind.i64.wrap ((tn : Int) + x) = (tn : Int) + x := by rw [IntKind.wrap_i64]; omega
      have e2 : IntKind.i64.wrap ((l.length : Int) - 1) = (l.length : Int) - 1 := by rw [IntKind.wrap_i64]; omega
      have hj0 := hI.cell 0 (.int .i64 (n0)) rfl; have hj1 := hI.cell 1 (.int .i64 (n1)) rfl; have hj2 := hI.cell 2 (.int .i64 (n2)) rfl; have hj3 := hI.cell 3 (.int .i64 (n3)) rfl; have hj4 := hI.cell 4 (.int .i64 (tn)) rfl; have hk0 := hI.fr 0; have hk1 := hI.fr 1; have hk2 := hI.fr 2; have hk3 := hI.fr 3; have hk4 := hI.fr 4
      have hBw := hI.lt
      have HI := Lib.hid hI; clear hI
      have HR := Lib.hid hR; clear hR
      obtain ⟨a1, ha1⟩ : ∃ a, (if n1 < x then x else n1) = a := ⟨_, rfl⟩
      obtain ⟨a3, ha3⟩ : ∃ a, (if n3 < y then y else n3) = a := ⟨_, rfl⟩
      obtain ⟨z, hz⟩ : ∃ a, (if 16 < x then x else 16) = a := ⟨_, rfl⟩
      by_cases hk0 : k = 0
      · have hkb : (((k : Nat) : Int) == 0) = true := by rw [beq_iff_eq]; omega
        have Hk0 := Lib.hid hk0; clear hk0
        go_wp2_with fail
        go_region
        go_wp2_with fail
        go_region
        go_wp2_with fail
        go_quiet (fail)
        go_wp2_with fail
        go_region
        go_wp2_with fail
        go_region
        go_wp2_with fail
        go_roundw
        case rel =>
          refine ⟨k + 1, by omega, by go_num, ?_, ?_, ?_⟩
          · exact Below.drew (Below.drew (Below.setCell (Below.setCell (Below.setCell (Below.setCell (below_drewN ((hb.setCell hBs _).setCell hBs _) _) hBs _) hBs _) hBs _) hBs _))
          · have hz1 : mxI n1 x = a1 := ha1
            have hz2 : mnI y y = y := by simp [mnI]
            have hz3 : mxI n3 y = a3 := ha3
            have hz0 : mxI 16 x = z := hz
            rw [Hm.out, Ha.out, Hb.out, Hc.out, Hd.out, hz1, hz3, if_pos Hk0.out, hz2, if_pos (Or.inl Hk0.out), hz0]
            exact (((((((HI.out.set4 _).set1 a1).drewN _).set0 z).set2 y).set2 y).set3 a3).drew.drew
          · exact (((((((HR.out.other _ _ hRB).other _ _ hRB).drewN _).other _ _ hRB).other _ _ hRB).other _ _ hRB).other _ _ hRB).drew.drew
        case measure => simp [intOf] <;> omega
      · obtain ⟨a2, ha2⟩ : ∃ a, (if y < n2 then y else n2) = a := ⟨_, rfl⟩
        have hkb : (((k : Nat) : Int) == 0) = false := by rw [beq_eq_false_iff_ne]; omega
        by_cases hk1 : k + 1 < l.length
        · have hkd : decide ((k : Int) < (l.length : Int) - 1) = true := by rw [decide_eq_true_iff]; omega
          by_cases hx : x < n0
          · have hxd : decide (x < n0) = true := by rw [decide_eq_true_iff]; exact hx
            go_wp2_with fail
            go_region
            go_wp2_with fail
            go_region
            go_wp2_with fail
            go_quiet (fail)
            go_wp2_with fail
            go_region
            go_wp2_with fail
            go_region
            go_wp2_with fail
            go_roundw
            case rel =>
              refine ⟨k + 1, by omega, by go_num, ?_, ?_, ?_⟩
              · exact Below.drew (Below.drew (Below.setCell (Below.setCell (Below.setCell (below_drewN ((hb.setCell hBs _).setCell hBs _) _) hBs _) hBs _) hBs _))
              · have hz1 : mxI n1 x = a1 := ha1
                have hz2 : mnI n2 y = a2 := ha2
                have hz3 : mxI n3 y = a3 := ha3
                have hz0 : mxI 16 x = z := hz
                rw [Hm.out, Ha.out, Hb.out, Hc.out, Hd.out, hz1, hz3, if_neg hk0, hz2, if_pos (Or.inr ⟨hk1, hx⟩), hz0]
                exact ((((((HI.out.set4 _).set1 a1).drewN _).set0 z).set2 a2).set3 a3).drew.drew
              · exact ((((((HR.out.other _ _ hRB).other _ _ hRB).drewN _).other _ _ hRB).other _ _ hRB).other _ _ hRB).drew.drew
            case measure => simp [intOf] <;> omega
          · have hxd : decide (x < n0) = false := by rw [decide_eq_false_iff_not]; exact hx
            go_wp2_with fail
            go_region
            go_wp2_with fail
            go_region
            go_wp2_with fail
            go_quiet (fail)
            go_wp2_with fail
            go_region
            go_wp2_with fail
            go_region
            go_wp2_with fail
            go_roundw
            case rel =>
              refine ⟨k + 1, by omega, by go_num, ?_, ?_, ?_⟩
              · exact Below.drew (Below.setCell (Below.setCell (below_drewN ((hb.setCell hBs _).setCell hBs _) _) hBs _) hBs _)
              · have hz1 : mxI n1 x = a1 := ha1
                have hz2 : mnI n2 y = a2 := ha2
                have hz3 : mxI n3 y = a3 := ha3
                have hz0 : mxI 16 x = z := hz
                rw [Hm.out, Ha.out, Hb.out, Hc.out, Hd.out, hz1, hz3, if_neg hk0, hz2, if_neg (by omega)]
                exact (((((HI.out.set4 _).set1 a1).drewN _).set2 a2).set3 a3).drew
              · exact (((((HR.out.other _ _ hRB).other _ _ hRB).drewN _).other _ _ hRB).other _ _ hRB).drew
            case measure => simp [intOf] <;> omega
        · have hkd : decide ((k : Int) < (l.length : Int) - 1) = false := by rw [decide_eq_false_iff_not]; omega
          go_wp2_with fail
          go_region
          go_wp2_with fail
          go_region
          go_wp2_with fail
          go_quiet (fail)
          go_wp2_with fail
          go_region
          go_wp2_with fail
          go_region
          go_wp2_with fail
          go_roundw
          case rel =>
            refine ⟨k + 1, by omega, by go_num, ?_, ?_, ?_⟩
            · exact Below.drew (Below.setCell (Below.setCell (below_drewN ((hb.setCell hBs _).setCell hBs _) _) hBs _) hBs _)
            · have hz1 : mxI n1 x = a1 := ha1
              have hz2 : mnI n2 y = a2 := ha2
              have hz3 : mxI n3 y = a3 := ha3
              have hz0 : mxI 16 x = z := hz
              rw [Hm.out, Ha.out, Hb.out, Hc.out, Hd.out, hz1, hz3, if_neg hk0, hz2, if_neg (by omega)]
              exact (((((HI.out.set4 _).set1 a1).drewN _).set2 a2).set3 a3).drew
            · exact (((((HR.out.other _ _ hRB).other _ _ hRB).drewN _).other _ _ hRB).other _ _ hRB).drew
          case measure => simp [intOf] <;> omega
    · obtain rfl : k = l.length := by omega
      obtain ⟨n0, hn0⟩ : ∃ z, mnR l.length (bk l) l.length = z := ⟨_, rfl⟩
      obtain ⟨n1, hn1⟩ : ∃ z, mxP (bk l) l.length = z := ⟨_, rfl⟩
      obtain ⟨n2, hn2a⟩ : ∃ z, mfR (by' l) l.length = z := ⟨_, rfl⟩
      obtain ⟨n3, hn3a⟩ : ∃ z, xfP (by' l) l.length = z := ⟨_, rfl⟩
      obtain ⟨n4, hn4⟩ : ∃ z, ttP (bk l) l.length = z := ⟨_, rfl⟩
      rw [hn0, hn1, hn2a, hn3a, hn4] at hI
      have hj0 := hI.cell 0 (.int .i64 (n0)) rfl; have hj1 := hI.cell 1 (.int .i64 (n1)) rfl; have hj2 := hI.cell 2 (.int .i64 (n2)) rfl; have hj3 := hI.cell 3 (.int .i64 (n3)) rfl; have hj4 := hI.cell 4 (.int .i64 (n4)) rfl; have hk0 := hI.fr 0; have hk1 := hI.fr 1; have hk2 := hI.fr 2; have hk3 := hI.fr 3; have hk4 := hI.fr 4
      obtain ⟨n2', hn2⟩ : ∃ z, knI n2 = z := ⟨_, rfl⟩
      obtain ⟨n3', hn3⟩ : ∃ z, knI n3 = z := ⟨_, rfl⟩
      have C2 : Hid (∀ W : World, Calls Try.prog 23 #[.int .i64 n2] W fun e w' => e = .returned (.int .i64 n2') ∧ w' = W) := fun W => hn2 ▸ frame_still n2 W
      have C3 : Hid (∀ W : World, Calls Try.prog 23 #[.int .i64 n3] W fun e w' => e = .returned (.int .i64 n3') ∧ w' = W) := fun W => hn3 ▸ frame_still n3 W
      have HI := Lib.hid hI; clear hI
      have HR := Lib.hid hR; clear hR
      go_wp2_with fail
      refine (C2.out _).mono ?_
      rintro e w4 ⟨rfl, he4⟩
      subst he4
      go_wp2_with fail
      refine (C3.out _).mono ?_
      rintro e w4 ⟨rfl, he4⟩
      subst he4
      go_wp2_with (first | (refine wpList_load_row rfl 31 _ rfl B rfl 31 (arV n0 n1 n2' n3' n4) (0, 0) _ ?_ Try.underlying31 rfl (by kernel_rfl) ?_; exact (HI.out.set2 _).set3 _) | (refine wpList_store_row (c := arV 0 0 0 0 0) (t := 31) rfl 31 _ _ rfl w.heap.size rfl rfl ?_ (by kernel_rfl) rfl (arV_one _ _ _ _ _) ?_; exact (HR.out.other _ _ hRB).other _ _ hRB))
      refine bodyPost_ret (results_cell_row (cs := arV n0 n1 n2' n3' n4) (t := 31) (fr := (0, 0)) (g := w.heap.size) Try.results11 _ _ _ rfl (setRow_heap _ _ _ _ 31 (0, 0) ((HR.out.other _ _ hRB).other _ _ hRB)) Try.underlying31 rfl (by kernel_rfl)) rfl ⟨?_, Below.setRow ((hb.setCell hBs _).setCell hBs _) hRs _⟩
      rw [hn0, hn1, hn2a, hn3a, hn4, hn2, hn3]
end Go.Proofs.Ytikgpohoggpldaa
