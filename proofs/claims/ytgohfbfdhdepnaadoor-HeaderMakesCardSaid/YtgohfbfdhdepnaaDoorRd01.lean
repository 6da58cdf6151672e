/-
  Reader: NewReader, Left, At, Seek, Take.
-/
import Derived.Test.YtgohfbfdhdepnaaDoorBits01
import Derived.Test.YtgohfbfdhdepnaaDoorClone01
import Derived.BigQuiet
namespace Go.Proofs.YtgohfbfdhdepnaaDoor
open Go.RowKit

set_option maxHeartbeats 400000 in
theorem NewReader_any (l : List UInt8) (A : Option Addr) (c : Nat) (w : World) (hr : Rd w A (bv l)) (hl : l.length ≤ 140737488355328) (hn : A = none → l.length = 0 ∧ c = 0) :
    Calls Tryd.prog 44 #[.slice A l.length c] w fun e w' => ∃ R A' c', e = .returned (.pointer (some ⟨R, 0, none⟩)) ∧ Rdr w' R 0 A' l c' ∧ w.heap.size ≤ R ∧ R < w'.heap.size ∧ Below w.heap.size w w' := by
  have HC := Lib.hid (clone_any l A c w hr hl hn)
  have Hl : Hid (l.length < 1152921504606846976) := by show _ < _; omega
  clear hr hn
  generalize hll : l.length = n at *
  go_enter Tryd.func44, Tryd.ntmps44
  go_wp2_with fail
  refine HC.out.mono ?_
  rintro e w1 ⟨v, rfl, Hown, hb⟩
  obtain ⟨A', c', rfl, hcc, -, hrd, -⟩ := own_rd4 Hown.out
  have Hrd := Lib.hid hrd
  clear hrd Hown HC
  go_wp2_with fail
  go_ret
  refine ⟨w1.heap.size, A', c', rfl, ⟨?_, Hrd.out.alloc _, by omega, by rw [hll]; exact Hl.out⟩, hb.size, by simp, bal hb _⟩
  rw [hll]
  exact heap_alloc_last w1 _

set_option maxHeartbeats 400000 in
theorem Left_any (R t : Nat) (A : Option Addr) (n c : Nat) (w : World) (hr : RdrAt w R t A n c) (ht : t ≤ 8 * n) (hn : n < 1152921504606846976) :
    Calls Tryd.prog 65 #[.pointer (some ⟨R, 0, none⟩)] w fun e w' => e = .returned (.int .i64 (8 * n - t)) ∧ Below w.heap.size w w' := by
  have h0 := hr.c0
  have h1 := hr.c1
  clear hr
  have hw1 : IntKind.i64.wrap ((n : Int) * 8) = (n : Int) * 8 := by rw [IntKind.wrap_i64]; omega
  have hw2 : IntKind.i64.wrap ((n : Int) * 8 - t) = (n : Int) * 8 - t := by rw [IntKind.wrap_i64]; omega
  go_enter Tryd.func65, Tryd.ntmps65
  go_wp2_with fail
  go_quiet (fail)
  go_wp2_with fail
  go_ret
  exact ⟨ret_int (by omega), by repeat (first | exact Below.refl _ _ | assumption | refine below_drewN ?_ _ | refine Below.drew ?_ | refine Below.alloc ?_ (Nat.le_refl _) _ | refine bal ?_ _ | refine bnext ?_ (by assumption))⟩
theorem At_any (R t : Nat) (A : Option Addr) (n c : Nat) (w : World) (hr : RdrAt w R t A n c) :
    Calls Tryd.prog 50 #[.pointer (some ⟨R, 0, none⟩)] w fun e w' => e = .returned (.int .i64 t) ∧ Below w.heap.size w w' := by
  have h0 := hr.c0
  clear hr
  go_enter Tryd.func50, Tryd.ntmps50
  go_wp2_with fail
  go_ret
  exact ⟨rfl, Below.refl _ _⟩

/-- The row of a Reader behind a store into its place. -/
theorem RdrAt.set {w : World} {R t : Nat} {A : Option Addr} {n c : Nat} (h : RdrAt w R t A n c) (t' : Nat) : RdrAt (w.setCell ⟨R, 0, none⟩ (.int .i64 t')) R t' A n c :=
  heap_setCell_same w R 0 _ _ (.int .i64 t') h
set_option maxHeartbeats 400000 in
theorem Seek_any (R t : Nat) (A : Option Addr) (l : List UInt8) (c : Nat) (at' : Int) (w : World) (hr : Rdr w R t A l c) :
    Calls Tryd.prog 47 #[.pointer (some ⟨R, 0, none⟩), .int .i64 at'] w fun e w' =>
      e = .returned (.int .i64 (if at' < 0 ∨ 8 * (l.length : Int) < at' then 10 else 0)) ∧ Rdr w' R (if at' < 0 ∨ 8 * (l.length : Int) < at' then t else at'.toNat) A l c ∧ Fr (· = R) w w' := by
  have h0 := hr.row.c0
  have h1 := hr.row.c1
  have hn := hr.len
  have hfz := hr.row.fz
  have hw1 : IntKind.i64.wrap ((l.length : Int) * 8) = (l.length : Int) * 8 := by rw [IntKind.wrap_i64]; omega
  have Hr := Lib.hid hr
  clear hr
  by_cases hc : at' < 0 ∨ 8 * (l.length : Int) < at'
  · rw [if_pos hc, if_pos hc]
    by_cases h2 : at' < 0
    · clear hc
      generalize hll : l.length = n at *
      go_enter Tryd.func47, Tryd.ntmps47
      go_wp2_with fail
      go_ret
      exact ⟨rfl, Hr.out, Fr.refl _ _⟩
    · have h3 : at' > (l.length : Int) * 8 := by omega
      clear hc
      generalize hll : l.length = n at *
      go_enter Tryd.func47, Tryd.ntmps47
      go_wp2_with fail
      go_ret
      exact ⟨rfl, Hr.out, Fr.refl _ _⟩
  · rw [if_neg hc, if_neg hc]
    obtain ⟨p, rfl⟩ : ∃ p : Nat, at' = p := ⟨at'.toNat, by omega⟩
    have h2 : ¬ (p : Int) < 0 := by omega
    have h3 : ¬ (p : Int) > (l.length : Int) * 8 := by omega
    have hp : p ≤ 8 * l.length := by omega
    clear hc
    generalize hll : l.length = n at *
    go_enter Tryd.func47, Tryd.ntmps47
    go_wp2_with fail
    go_ret
    have f : Fr (· = R) w (w.setCell ⟨R, 0, none⟩ (.int .i64 p)) := (Fr.refl _ _).put 0 _
    exact ⟨rfl, Hr.out.moved f (Hr.out.row.set p) (by omega), f⟩

set_option maxHeartbeats 400000 in
theorem rest_any (p : Nat) (hp : p < 9223372036854775808) (w : World) :
    Calls Tryd.prog 63 #[.agg #[.int .i64 p]] w fun e w' => e = .returned (.int .i64 (((8 - p % 8) % 8 : Nat) : Int)) ∧ Below w.heap.size w w' := by
  obtain ⟨s, hs⟩ : ∃ s : Nat, p % 8 = s := ⟨_, rfl⟩
  have hs8 : s < 8 := by omega
  have hm : (p : Int) % 8 = s := by omega
  rw [hs]
  have hw : ((8 : Int) - s) % 8 = (((8 - s) % 8 : Nat) : Int) := by omega
  clear hs
  go_enter Tryd.func63, Tryd.ntmps63
  go_wp2_with fail
  go_ret
  exact ⟨ret_int (by omega), by repeat (first | exact Below.refl _ _ | assumption | refine below_drewN ?_ _ | refine Below.drew ?_ | refine Below.alloc ?_ (Nat.le_refl _) _ | refine bal ?_ _ | refine bnext ?_ (by assumption))⟩
end Go.Proofs.YtgohfbfdhdepnaaDoor
