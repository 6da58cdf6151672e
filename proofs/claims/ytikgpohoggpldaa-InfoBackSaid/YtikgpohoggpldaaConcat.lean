/-
  slices.Grow of nil, slices.Concat of byte slices, info.big.
-/
import Derived.Test.YtikgpohoggpldaaReads
import Derived.Test.YtikgpohoggpldaaAppN
import Derived.Lib.AppendZerosOnto
import Derived.Lib.AppendZeros
namespace Go.Proofs.Ytikgpohoggpldaa
open Go.RowKit

theorem info_u8 : (Try.prog.info? 5).map (fun i => (i.zero, i.size, i.bytes)) = some (some (.int .u8 0), 1, 1) := by kernel_rfl

set_option maxHeartbeats 1000000 in
theorem Grow_nil (n : Nat) (h0 : 0 < n) (hn : n ≤ 1000000) (w : World) :
    Calls Try.prog 30 #[.slice none 0 0, .int .i64 n] w fun e w' => ∃ v, e = .returned v ∧ Hid (w'.ownsRow w.heap.size 5 1 v 0 []) ∧ Below w.heap.size w w' := by
  obtain ⟨i, hi, hz0, hz1, hz2⟩ := info_parts info_u8
  have hrz : ∀ ty, (Builtin.append_ #[41, 3] ty #[.slice none 0 0, .int .i64 (n : Int)]).run Try.prog w =
      .ok (.slice (some ⟨w.heap.size, 0, none⟩) n (grownCap w n 0 5)) (w.drew.alloc (.cells (#[] ++ Builtin.zeroCells (Value.int .u8 0).cells n ++ Builtin.zeroCells (Value.int .u8 0).cells (grownCap w n 0 5 - n)) 5)) := fun ty => by
    have h := Lib.run_append_grow_zeros (P := Try.prog) w 41 3 ty 5 i (.int .u8 0) .i64 .i64 Try.underlying41 Try.underlying3 hi hz0 none 0 0 [] (run_firstCells_none w.drew i.size 0 0 0) n h0 (by omega) (by omega) (by omega) (by rw [hz2]; omega) (by rw [Nat.zero_add]; exact growslice_fits (by omega) (by rw [hz2]; omega))
    rw [Nat.zero_add] at h
    exact h
  have hG := grownCap_ge w n 0 5
  have hG2 := grownCap_le_maxLen w n 0 5 (by unfold maxLen; omega)
  generalize grownCap w n 0 5 = G at *
  have HO : Hid ((w.drew.alloc (.cells (#[] ++ Builtin.zeroCells (Value.int .u8 0).cells n ++ Builtin.zeroCells (Value.int .u8 0).cells (G - n)) 5)).ownsRow w.heap.size 5 1 (.slice (some ⟨w.heap.size, 0, none⟩) 0 G) 0 []) := by
    refine ⟨rfl, .inr ⟨w.heap.size, G, _, rfl, Nat.le_refl _, heap_alloc_new w.drew _, Nat.zero_le _, hG2, ?_, rfl⟩⟩
    simp [Builtin.zeroCells, Value.cells]
    omega
  have hG63 : (0 : Int) ≤ G := by omega
  unfold maxLen at hG2
  generalize (.cells (#[] ++ Builtin.zeroCells (Value.int .u8 0).cells n ++ Builtin.zeroCells (Value.int .u8 0).cells (G - n)) 5 : Obj) = O at *
  go_enter Try.func30, Try.ntmps30
  go_wp2_with (at_builtin; refine Lib.wpList_append_run _ rfl _ _ _ _ rfl _ _ rfl rfl _ _ (hrz _) ?_)
  go_ret
  exact ⟨_, rfl, HO, by repeat (first | exact Below.refl _ _ | assumption | refine below_drewN ?_ _ | refine Below.drew ?_ | refine Below.alloc ?_ (Nat.le_refl _) _ | refine bal ?_ _ | refine bnext ?_ (by assumption))⟩

/-- Values that are slices that read as lists of bytes. -/
def BSN (w : World) (vs : List Value) (ls : List (List Nat)) : Prop :=
  vs.length = ls.length ∧ ∀ (j : Nat) (x : Value) (y : List Nat), vs[j]? = some x → ls[j]? = some y → ∃ A c, x = .slice A y.length c ∧ y.length ≤ c ∧ Rd w A (nv8 y) ∧ (A = none → c = 0)
theorem BSN.below {w w' : World} {vs : List Value} {ls : List (List Nat)} (h : BSN w vs ls) (hb : Below w.heap.size w w') : BSN w' vs ls :=
  ⟨h.1, fun j x y h1 h2 => by obtain ⟨A, c, e, hc, hr, hn⟩ := h.2 j x y h1 h2; exact ⟨A, c, e, hc, hr.below hb, hn⟩⟩
theorem flat_take (ls : List (List Nat)) (j : Nat) (h : j < ls.length) : (ls.take (j + 1)).flatten = (ls.take j).flatten ++ ls[j] := by
  rw [List.take_succ_eq_append_getElem h, List.flatten_append]; simp
theorem flat_le (ls : List (List Nat)) (j : Nat) : (ls.take j).flatten.length ≤ ls.flatten.length := by
  conv => rhs; rw [← List.take_append_drop j ls, List.flatten_append, List.length_append]
  omega
theorem oneCell_nv8 (l : List Nat) : ∀ u ∈ nv8 l, u.oneCell' = true := nv8_one l

set_option maxHeartbeats 1000000 in
theorem Concat_any (ls : List (List Nat)) (A : Option Addr) (c : Nat) (vs : List Value) (w : World) (hr : Rd w A vs) (hB : BSN w vs ls) (hlen : ls.length ≤ 1000) (htot : ls.flatten.length ≤ 1000000) (hpos : 0 < ls.flatten.length) :
    Calls Try.prog 27 #[.slice A ls.length c] w fun e w' => ∃ v, e = .returned v ∧ Hid (w'.ownsRow w.heap.size 5 1 v ls.flatten.length (nv8 ls.flatten)) ∧ Below w.heap.size w w' := by
  have Hr := Lib.hid hr; clear hr
  have HB := Lib.hid hB; clear hB
  go_enter Try.func27, Try.ntmps27
  go_wp2_with fail
  go_loop [3, 11] (fun sv iv => ∃ j : Nat, j ≤ ls.length ∧ iv = .int .i64 j ∧ sv = .int .i64 ((ls.take j).flatten.length : Nat)) (fun _ iv => ls.length - (intOf iv).toNat)
  case atStart => exact ⟨0, by omega, rfl, rfl⟩
  case round =>
    obtain ⟨j, hj, rfl, rfl⟩ := hrel
    by_cases hjj : j < ls.length
    · have hjv : j < vs.length := by have := HB.out.1; omega
      obtain ⟨b, o, rfl, hcell⟩ := Hr.out.at_ hjv
      obtain ⟨A1, c1, e1, hc1, hr1, hn1⟩ := HB.out.2 j vs[j] ls[j] (List.getElem?_eq_getElem hjv) (List.getElem?_eq_getElem hjj)
      rw [e1] at hcell
      have Hs := Lib.hid (flat_take ls j hjj)
      have hle := flat_le ls (j + 1)
      have hl2 : ((ls.take (j + 1)).flatten).length = (ls.take j).flatten.length + ls[j].length := by rw [Hs.out, List.length_append]
      have Hl2 := Lib.hid hl2
      have hle2 : (ls.take j).flatten.length + ls[j].length ≤ 1000000 := by omega
      clear hl2 hle hn1 e1 hr1
      generalize (ls.take j).flatten.length = p at *
      generalize ls[j].length = q at *
      go_wp2_with fail
      go_round
      case rel => exact ⟨j + 1, by omega, by go_num, by rw [Hl2.out]; go_num⟩
      case measure => simp [intOf]; omega
    · obtain rfl : j = ls.length := by omega
      have Hfl : Hid ((ls.take ls.length).flatten.length = ls.flatten.length) := by show _ = _; rw [List.take_length]
      rw [Hfl.out]
      generalize hT : ls.flatten.length = T at *
      have HT := Lib.hid hT
      clear hT Hfl
      go_wp2_with fail
      refine (Grow_nil T hpos htot _).mono ?_
      rintro e w1 ⟨v, rfl, Hv, hb1⟩
      go_wp2_with fail
      go_loopw [6, 27] (fun v iv wr => ∃ j : Nat, j ≤ ls.length ∧ iv = .int .i64 j ∧ Hid (wr.ownsRow w.heap.size 5 1 v (ls.take j).flatten.length (nv8 (ls.take j).flatten)) ∧ Hid (Below w.heap.size w wr)) (fun _ iv _ => ls.length - (intOf iv).toNat)
      case atStart => exact ⟨0, by omega, rfl, Hv, hb1⟩
      case round =>
        clear Hv hb1
        obtain ⟨j, hj, rfl, Hv, Hb⟩ := hrel
        by_cases hjj : j < ls.length
        · have hjv : j < vs.length := by have := HB.out.1; omega
          obtain ⟨b, o, rfl, hcell⟩ := (Hr.out.below Hb.out).at_ hjv
          obtain ⟨A1, c1, e1, hc1, hr1, hn1⟩ := (HB.out.below Hb.out).2 j vs[j] ls[j] (List.getElem?_eq_getElem hjv) (List.getElem?_eq_getElem hjj)
          rw [e1] at hcell
          have Hs := Lib.hid (flat_take ls j hjj)
          have hle := flat_le ls (j + 1)
          rw [HT.out] at hle
          have hl2 : ((ls.take (j + 1)).flatten).length = (ls.take j).flatten.length + ls[j].length := by rw [Hs.out, List.length_append]
          have Hl2 := Lib.hid hl2
          have hle2 : (ls.take j).flatten.length + ls[j].length ≤ 1000000 := by omega
          have Hr1 := Lib.hid hr1
          have Hn1 := Lib.hid hn1
          have Hvl : Hid ((nv8 ls[j]).length = ls[j].length) := nv8_length _
          have Hone := Lib.hid (oneCell_nv8 ls[j])
          have Hap : Hid (nv8 (ls.take (j + 1)).flatten = nv8 (ls.take j).flatten ++ nv8 ls[j]) := by show _ = _; rw [Hs.out, nv8_append]
          clear hl2 hle e1 hr1 hn1
          generalize (ls.take j).flatten.length = p at *
          generalize ls[j].length = q at *
          generalize nv8 ls[j] = ys at *
          have hbs := Hb.out.size
          go_wp2_with (at_builtin; refine appN (w0 := w) (base := w.heap.size) rfl _ _ 41 rfl Try.underlying41 info_u8 rfl rfl Hv.out (Nat.le_refl _) hbs Hb.out rfl Hr1.out Hvl.out Hn1.out Hone.out (by omega) (by unfold maxLen; omega) ?_; intro v1 w6 own1 hb6 hs6 hnil6; have Hown1 := Lib.hid own1; have Hb6 := Lib.hid hb6; clear own1 hb6 hnil6)
          go_roundw
          case rel => exact ⟨j + 1, by omega, by go_num, by rw [Hl2.out, Hap.out]; exact Hown1, Hb6⟩
          case measure => simp [intOf] <;> omega
        · obtain rfl : j = ls.length := by omega
          have Hfl : Hid ((ls.take ls.length).flatten = ls.flatten) := by show _ = _; rw [List.take_length]
          rw [Hfl.out, HT.out] at Hv
          go_wp2_with fail
          go_ret
          exact ⟨_, rfl, by rw [HT.out]; exact Hv, Hb.out⟩
end Go.Proofs.Ytikgpohoggpldaa
