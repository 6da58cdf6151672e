/-
  The walks over jetsamref01.Bits and jetsamref02: the sums, bit by bit.
-/
import Derived.Test.YtgohfbfdhdepnaaDoorRows
import Derived.Test.YtgohfbfdhdepnaaDoorL
import Derived.Test.YtgohfbfdhdepnaaDoorCrc
import Derived.WalkSpells
import Derived.Deep.QuietTactic
import Derived.BigQuiet
import Derived.Deep.RegionHeld3
import Derived.Deep.DeepCutAuto
import Derived.OwnWalk
import Derived.KernelRfl
namespace Go.Proofs.YtgohfbfdhdepnaaDoor.C2
open Go.RowKit
open Crc (bits8 bitsOf bits8_le bitsOf_le)

theorem info_int : (Tryd.prog.info? 3).map (fun i => (i.zero, i.size, i.bytes)) = some (some (.int .i64 0), 1, 8) := by kernel_rfl

theorem bits8_snoc (x d : Nat) (hd : d + 1 ≤ 8) : (bits8 x 8).take (8 - d) = (bits8 x 8).take (8 - (d + 1)) ++ [x / 2 ^ d % 2] := by
  have : d = 0 ∨ d = 1 ∨ d = 2 ∨ d = 3 ∨ d = 4 ∨ d = 5 ∨ d = 6 ∨ d = 7 := by omega
  rcases this with rfl | rfl | rfl | rfl | rfl | rfl | rfl | rfl <;> simp [bits8]
theorem bits8_length (x k : Nat) : (bits8 x k).length = k := by induction k <;> simp_all [bits8]
theorem bitsOf_length (l : List UInt8) : (bitsOf l).length = 8 * l.length := by
  induction l with
  | nil => rfl
  | cons x l ih => simp only [bitsOf, List.flatMap_cons, List.length_append, bits8_length, List.length_cons] at *; omega

set_option maxRecDepth 100000 in
set_option maxHeartbeats 800000 in
theorem Bits_any (l : List UInt8) (A : Option Addr) (c : Nat) (w : World) (hr : Rd w A (bv l)) (hlen : l.length ≤ 1000000) :
    Calls Tryd.prog 39 #[.slice A l.length c] w fun e w' =>
      ∃ v, e = .returned v ∧ w'.ownsRow w.heap.size 3 1 v (8 * l.length) (nv (bitsOf l)) ∧ Below w.heap.size w w' := by
  have Hr := Lib.hid hr; clear hr
  go_enter Tryd.func39, Tryd.ntmps39
  go_wp2_with fail
  go_loopw [3, 4] (fun v i wr => ∃ j : Nat, j ≤ l.length ∧ i = .int .i64 j ∧ wr.ownsRow w.heap.size 3 1 v (8 * j) (nv (bitsOf (l.take j))) ∧ Below w.heap.size w wr) (fun _ i _ => l.length - (intOf i).toNat)
  case atStart => exact ⟨0, by omega, rfl, World.ownsRow_nil w w.heap.size _ 1, by repeat (first | exact Below.refl _ _ | assumption | refine below_drewN ?_ _ | refine Below.drew ?_ | refine Below.alloc ?_ (Nat.le_refl _) _ | refine bal ?_ _ | refine bnext ?_ (by assumption))⟩
  case round =>
    obtain ⟨j, hj, rfl, hown, hb⟩ := hrel
    by_cases hjj : j < l.length
    · obtain ⟨b, o, rfl, hcell⟩ := Hr.out.at_ (j := j) (by rw [bv_length]; exact hjj)
      have e2 := bv_get l j hjj
      rw [List.getElem?_eq_getElem (by rw [bv_length]; exact hjj)] at e2
      rw [Option.some.inj e2] at hcell
      clear e2
      have hx0 := l[j].toNat_lt
      have Ht : Hid (bitsOf (l.take (j + 1)) = bitsOf (l.take j) ++ bits8 l[j].toNat 8) := by
        show _ = _
        rw [List.take_succ_eq_append_getElem hjj]; simp only [bitsOf, List.flatMap_append, List.flatMap_cons, List.flatMap_nil, List.append_nil]
      have Hl8 : Hid ((bitsOf (l.take j)).length = 8 * j) := by
        show _ = _
        rw [bitsOf_length, List.length_take]; omega
      generalize hq : bitsOf (l.take j) = q at *
      clear hq
      generalize hx : l[j].toNat = x at *
      clear hx
      obtain ⟨wo, rfl⟩ : ∃ wo : World, wo = wr := ⟨_, rfl⟩
      go_wp2_with fail
      go_loopw [3, 5] (fun v i wr => ∃ d : Nat, d ≤ 8 ∧ i = .int .i64 ((d : Int) - 1) ∧ wr.ownsRow w.heap.size 3 1 v (8 * j + (8 - d)) (nv (q ++ (bits8 x 8).take (8 - d))) ∧ Below w.heap.size w wr) (fun _ i _ => (intOf i + 1).toNat)
      case atStart => exact ⟨8, by omega, rfl, by simpa using hown, hb⟩
      case round =>
        obtain ⟨d, hd, rfl, hown2, hb2⟩ := hrel
        by_cases hdd : d = 0
        · subst hdd
          go_wp2_with fail
          go_roundw
          case rel =>
            refine ⟨j + 1, by omega, by go_num, ?_, hb2⟩
            rw [Ht.out]
            rw [List.take_of_length_le (by rw [bits8_length]; exact Nat.le_refl 8)] at hown2
            exact hown2
          case measure => simp [intOf] <;> omega
        · obtain ⟨d, rfl⟩ : ∃ d', d = d' + 1 := ⟨d - 1, by omega⟩
          have Hown := Lib.hid hown2; clear hown2
          have hcell2 := (hb2.cell (p := ⟨b, o + j, none⟩) (cell_lt hcell)).trans hcell
          clear hcell
          clear hown
          have hd0 : (0 : Int) ≤ d := by omega
          have hd1 : ((d + 1 : Nat) : Int) - 1 = d := by omega
          rw [hd1]
          clear hd1
          go_wp2_with (at_builtin; refine app1 (w0 := w) rfl _ _ 65 rfl Tryd.underlying65 info_int rfl (by decide) rfl Hown.out (Nat.le_refl _) hb2.size hb2 rfl rfl (one_int _ _) (by omega) (by unfold maxLen; omega) ?_; intro v1 w1 own1 hb1 hs1; have Hown1 := Lib.hid own1; clear own1)
          go_roundw
          case rel =>
            refine ⟨d, by omega, rfl, ?_, hb1⟩
            have h := Hown1.out
            have e := i64_and_nat (x / 2 ^ d) 1 (Nat.lt_of_le_of_lt (Nat.div_le_self _ _) (by omega)) (by omega)
            rw [Nat.and_one_is_mod] at e
            have e2 : bits .and .i64 ((x : Int) / 2 ^ d) 1 = ((x / 2 ^ d % 2 : Nat) : Int) := by
              rw [show ((x : Int) / 2 ^ d) = ((x / 2 ^ d : Nat) : Int) from by simp]
              exact e
            rw [e2] at h
            rw [bits8_snoc x d hd, ← List.append_assoc, nv_append]
            rw [show 8 * j + (8 - (d + 1)) + 1 = 8 * j + (8 - d) from by omega] at h
            exact h
          case measure => simp [intOf] <;> omega
    · obtain rfl : j = l.length := by omega
      go_wp2_with fail
      go_ret
      refine ⟨_, rfl, ?_, hb⟩
      rw [List.take_of_length_le (Nat.le_refl _)] at hown
      exact hown
def lst8 (s b : Nat) : Nat := if 256 ≤ 2 * s + b then (2 * s + b - 256) ^^^ 7 else 2 * s + b
def lft8 (l : List Nat) : Nat := (l ++ List.replicate 8 0).foldl lst8 0
theorem lst8_lt (s b : Nat) (hs : s < 256) (hb : b ≤ 1) : lst8 s b < 256 := by
  unfold lst8; split
  · exact Nat.xor_lt_two_pow (n := 8) (by omega) (by omega)
  · omega
theorem lfold8_lt (l : List Nat) (h : ∀ b ∈ l, b ≤ 1) (s : Nat) (hs : s < 256) : l.foldl lst8 s < 256 := by
  induction l generalizing s with
  | nil => exact hs
  | cons x l ih => exact ih (fun b hb => h b (List.mem_cons_of_mem _ hb)) _ (lst8_lt _ _ hs (h x (List.mem_cons_self ..)))
theorem xor_int8 (s b : Nat) (hs : s < 256) (hb : b ≤ 1) (h : 256 ≤ 2 * s + b) : bits .xor .i64 (2 * (s : Int) + b - 256) 7 = ((lst8 s b : Nat) : Int) := by
  rw [lst8, if_pos h, show (2 * (s : Int) + b - 256) = ((2 * s + b - 256 : Nat) : Int) from by omega]
  exact i64_xor_nat _ 7 (by omega) (by omega)
theorem xor_int8z (s : Nat) (hs : s < 256) (h : 256 ≤ 2 * s) : bits .xor .i64 (2 * (s : Int) - 256) 7 = ((lst8 s 0 : Nat) : Int) := by
  have := xor_int8 s 0 hs (by omega) (by omega)
  simpa using this

set_option maxRecDepth 100000 in
set_option maxHeartbeats 800000 in
theorem Left8_any (l : List Nat) (hb : ∀ b ∈ l, b ≤ 1) (A : Option Addr) (c : Nat) (w : World) (hr : Rd w A (nv l)) (hlen : (l.length : Int) ≤ 100000000) :
    Calls Tryd.prog 61 #[.slice A l.length c, .int .i64 8, .int .i64 7] w fun e w' =>
      e = .returned (.int .i64 (lft8 l)) ∧ Below w.heap.size w w' := by
  have Hr := Lib.hid hr; clear hr
  have Hb := Lib.hid hb; clear hb
  go_enter Tryd.func61, Tryd.ntmps61
  go_wp2_with fail
  go_loop [7, 8] (fun v i => ∃ k : Nat, k ≤ l.length + 8 ∧ i = .int .i64 k ∧ v = .int .i64 (((l ++ List.replicate 8 0).take k).foldl lst8 0 : Nat)) (fun _ i => l.length + 8 - (intOf i).toNat)
  case atStart => exact ⟨0, by omega, rfl, rfl⟩
  case round =>
    obtain ⟨k, hk, rfl, rfl⟩ := hrel
    have Hlt : Hid (((l ++ List.replicate 8 0).take k).foldl lst8 0 < 256) := by
      refine lfold8_lt _ (fun b hb => ?_) 0 (by omega)
      have hb := List.mem_of_mem_take hb
      rcases List.mem_append.1 hb with h | h
      · exact Hb.out b h
      · have := List.eq_of_mem_replicate h; omega
    by_cases hkk : k < l.length + 8
    · have hk2 : k < (l ++ List.replicate 8 0).length := by simp; omega
      have Ht : Hid (((l ++ List.replicate 8 0).take (k + 1)).foldl lst8 0 = lst8 (((l ++ List.replicate 8 0).take k).foldl lst8 0) ((l ++ List.replicate 8 0)[k]'hk2)) := by
        show _ = _
        rw [List.take_succ_eq_append_getElem hk2, List.foldl_append]; rfl
      by_cases hkl : k < l.length
      · obtain ⟨b, o, rfl, hcell⟩ := Hr.out.at_ (j := k) (by rw [nv_length]; exact hkl)
        have e2 := nv_get l k hkl
        rw [List.getElem?_eq_getElem (by rw [nv_length]; exact hkl)] at e2
        rw [Option.some.inj e2] at hcell
        clear e2
        have hb1 := Hb.out _ (List.getElem_mem hkl)
        have eb : (l ++ List.replicate 8 0)[k]'hk2 = l[k] := List.getElem_append_left hkl
        rw [eb] at Ht
        clear eb
        generalize hq : ((l ++ List.replicate 8 0).take k).foldl lst8 0 = q at *
        clear hq
        generalize hx : l[k] = x at *
        clear hx
        have hlt0 := Hlt.out
        have Hlt0 := Lib.hid hlt0
        have hlt : q < 256 := hlt0
        clear hlt0
        by_cases h : (2 * q + x : Int) ≥ 256
        · have E := Lib.hid (xor_int8 q x Hlt0.out hb1 (by omega))
          go_wp2_with fail
          go_round
          case rel =>
            refine ⟨k + 1, by omega, by go_num, ?_⟩
            rw [Ht.out, ← E.out]
          case measure => simp [intOf] <;> omega
        · have E : Hid (lst8 q x = 2 * q + x) := if_neg (by omega)
          go_wp2_with fail
          go_round
          case rel =>
            refine ⟨k + 1, by omega, by go_num, ?_⟩
            rw [Ht.out, E.out]; go_num
          case measure => simp [intOf] <;> omega
      · have eb : (l ++ List.replicate 8 0)[k]'hk2 = 0 := by rw [List.getElem_append_right (by omega), List.getElem_replicate]
        rw [eb] at Ht
        clear eb
        generalize hq : ((l ++ List.replicate 8 0).take k).foldl lst8 0 = q at *
        clear hq
        have hlt0 := Hlt.out
        have Hlt0 := Lib.hid hlt0
        have hlt : q < 256 := hlt0
        clear hlt0
        by_cases h : (2 * q : Int) ≥ 256
        · have E := Lib.hid (xor_int8z q Hlt0.out (by omega))
          go_wp2_with fail
          go_round
          case rel =>
            refine ⟨k + 1, by omega, by go_num, ?_⟩
            rw [Ht.out, ← E.out]
          case measure => simp [intOf] <;> omega
        · have E : Hid (lst8 q 0 = 2 * q) := if_neg (by omega)
          go_wp2_with fail
          go_round
          case rel =>
            refine ⟨k + 1, by omega, by go_num, ?_⟩
            rw [Ht.out, E.out]; go_num
          case measure => simp [intOf] <;> omega
    · obtain rfl : k = l.length + 8 := by omega
      go_wp2_with fail
      go_ret
      refine ⟨ret_int ?_, Below.refl _ _⟩
      rw [List.take_of_length_le (by simp)]; rfl

set_option maxHeartbeats 800000 in
theorem refSum8_any (l : List UInt8) (A : Option Addr) (c : Nat) (w : World) (hr : Rd w A (bv l)) (hlen : l.length ≤ 1000000) :
    Calls Tryd.prog 42 #[.slice A l.length c] w fun e w' =>
      e = .returned (.int .i64 (lft8 (bitsOf l))) ∧ Below w.heap.size w w' := by
  have Hr := Lib.hid hr; clear hr
  go_enter Tryd.func42, Tryd.ntmps42
  go_wp2_with fail
  refine (Bits_any l A c _ Hr.out hlen).mono ?_
  rintro e w1 ⟨v, rfl, hown, hb1⟩
  obtain ⟨A1, c1, rfl, hc1, hr1⟩ := own_rd hown
  go_wp2_with fail
  rw [← bitsOf_length]
  refine (Left8_any (bitsOf l) (bitsOf_le l) A1 c1 _ hr1 (by rw [bitsOf_length]; omega)).mono ?_
  rintro e w2 ⟨rfl, hb2⟩
  go_wp2_with fail
  go_ret
  exact ⟨rfl, bnext hb1 hb2⟩

theorem shst_int8 (s : Nat) (hs : s < 256) (h : 256 ≤ 2 * s) : bits .xor .i64 (2 * (s : Int) - 256) 7 = ((lst8 s 0 : Nat) : Int) := xor_int8z s hs h
theorem rsh8_lt (s : Nat) (hs : s < 256) : ∀ k, it (fun s => lst8 s 0) k s < 256
  | 0 => hs
  | k + 1 => lst8_lt _ 0 (rsh8_lt s hs k) (by omega)
def lst16 (s b : Nat) : Nat := if 65536 ≤ 2 * s + b then (2 * s + b - 65536) ^^^ 32773 else 2 * s + b
def lft16 (l : List Nat) : Nat := (l ++ List.replicate 16 0).foldl lst16 0
theorem lst16_lt (s b : Nat) (hs : s < 65536) (hb : b ≤ 1) : lst16 s b < 65536 := by
  unfold lst16; split
  · exact Nat.xor_lt_two_pow (n := 16) (by omega) (by omega)
  · omega
theorem lfold16_lt (l : List Nat) (h : ∀ b ∈ l, b ≤ 1) (s : Nat) (hs : s < 65536) : l.foldl lst16 s < 65536 := by
  induction l generalizing s with
  | nil => exact hs
  | cons x l ih => exact ih (fun b hb => h b (List.mem_cons_of_mem _ hb)) _ (lst16_lt _ _ hs (h x (List.mem_cons_self ..)))
theorem xor_int16 (s b : Nat) (hs : s < 65536) (hb : b ≤ 1) (h : 65536 ≤ 2 * s + b) : bits .xor .i64 (2 * (s : Int) + b - 65536) 32773 = ((lst16 s b : Nat) : Int) := by
  rw [lst16, if_pos h, show (2 * (s : Int) + b - 65536) = ((2 * s + b - 65536 : Nat) : Int) from by omega]
  exact i64_xor_nat _ 32773 (by omega) (by omega)
theorem xor_int16z (s : Nat) (hs : s < 65536) (h : 65536 ≤ 2 * s) : bits .xor .i64 (2 * (s : Int) - 65536) 32773 = ((lst16 s 0 : Nat) : Int) := by
  have := xor_int16 s 0 hs (by omega) (by omega)
  simpa using this

set_option maxRecDepth 100000 in
set_option maxHeartbeats 800000 in
theorem Left16_any (l : List Nat) (hb : ∀ b ∈ l, b ≤ 1) (A : Option Addr) (c : Nat) (w : World) (hr : Rd w A (nv l)) (hlen : (l.length : Int) ≤ 100000000) :
    Calls Tryd.prog 61 #[.slice A l.length c, .int .i64 16, .int .i64 32773] w fun e w' =>
      e = .returned (.int .i64 (lft16 l)) ∧ Below w.heap.size w w' := by
  have Hr := Lib.hid hr; clear hr
  have Hb := Lib.hid hb; clear hb
  go_enter Tryd.func61, Tryd.ntmps61
  go_wp2_with fail
  go_loop [7, 8] (fun v i => ∃ k : Nat, k ≤ l.length + 16 ∧ i = .int .i64 k ∧ v = .int .i64 (((l ++ List.replicate 16 0).take k).foldl lst16 0 : Nat)) (fun _ i => l.length + 16 - (intOf i).toNat)
  case atStart => exact ⟨0, by omega, rfl, rfl⟩
  case round =>
    obtain ⟨k, hk, rfl, rfl⟩ := hrel
    have Hlt : Hid (((l ++ List.replicate 16 0).take k).foldl lst16 0 < 65536) := by
      refine lfold16_lt _ (fun b hb => ?_) 0 (by omega)
      have hb := List.mem_of_mem_take hb
      rcases List.mem_append.1 hb with h | h
      · exact Hb.out b h
      · have := List.eq_of_mem_replicate h; omega
    by_cases hkk : k < l.length + 16
    · have hk2 : k < (l ++ List.replicate 16 0).length := by simp; omega
      have Ht : Hid (((l ++ List.replicate 16 0).take (k + 1)).foldl lst16 0 = lst16 (((l ++ List.replicate 16 0).take k).foldl lst16 0) ((l ++ List.replicate 16 0)[k]'hk2)) := by
        show _ = _
        rw [List.take_succ_eq_append_getElem hk2, List.foldl_append]; rfl
      by_cases hkl : k < l.length
      · obtain ⟨b, o, rfl, hcell⟩ := Hr.out.at_ (j := k) (by rw [nv_length]; exact hkl)
        have e2 := nv_get l k hkl
        rw [List.getElem?_eq_getElem (by rw [nv_length]; exact hkl)] at e2
        rw [Option.some.inj e2] at hcell
        clear e2
        have hb1 := Hb.out _ (List.getElem_mem hkl)
        have eb : (l ++ List.replicate 16 0)[k]'hk2 = l[k] := List.getElem_append_left hkl
        rw [eb] at Ht
        clear eb
        generalize hq : ((l ++ List.replicate 16 0).take k).foldl lst16 0 = q at *
        clear hq
        generalize hx : l[k] = x at *
        clear hx
        have hlt0 := Hlt.out
        have Hlt0 := Lib.hid hlt0
        have hlt : q < 65536 := hlt0
        clear hlt0
        by_cases h : (2 * q + x : Int) ≥ 65536
        · have E := Lib.hid (xor_int16 q x Hlt0.out hb1 (by omega))
          go_wp2_with fail
          go_round
          case rel =>
            refine ⟨k + 1, by omega, by go_num, ?_⟩
            rw [Ht.out, ← E.out]
          case measure => simp [intOf] <;> omega
        · have E : Hid (lst16 q x = 2 * q + x) := if_neg (by omega)
          go_wp2_with fail
          go_round
          case rel =>
            refine ⟨k + 1, by omega, by go_num, ?_⟩
            rw [Ht.out, E.out]; go_num
          case measure => simp [intOf] <;> omega
      · have eb : (l ++ List.replicate 16 0)[k]'hk2 = 0 := by rw [List.getElem_append_right (by omega), List.getElem_replicate]
        rw [eb] at Ht
        clear eb
        generalize hq : ((l ++ List.replicate 16 0).take k).foldl lst16 0 = q at *
        clear hq
        have hlt0 := Hlt.out
        have Hlt0 := Lib.hid hlt0
        have hlt : q < 65536 := hlt0
        clear hlt0
        by_cases h : (2 * q : Int) ≥ 65536
        · have E := Lib.hid (xor_int16z q Hlt0.out (by omega))
          go_wp2_with fail
          go_round
          case rel =>
            refine ⟨k + 1, by omega, by go_num, ?_⟩
            rw [Ht.out, ← E.out]
          case measure => simp [intOf] <;> omega
        · have E : Hid (lst16 q 0 = 2 * q) := if_neg (by omega)
          go_wp2_with fail
          go_round
          case rel =>
            refine ⟨k + 1, by omega, by go_num, ?_⟩
            rw [Ht.out, E.out]; go_num
          case measure => simp [intOf] <;> omega
    · obtain rfl : k = l.length + 16 := by omega
      go_wp2_with fail
      go_ret
      refine ⟨ret_int ?_, Below.refl _ _⟩
      rw [List.take_of_length_le (by simp)]; rfl

theorem shst_int16 (s : Nat) (hs : s < 65536) (h : 65536 ≤ 2 * s) : bits .xor .i64 (2 * (s : Int) - 65536) 32773 = ((lst16 s 0 : Nat) : Int) := xor_int16z s hs h
theorem rsh16_lt (s : Nat) (hs : s < 65536) : ∀ k, it (fun s => lst16 s 0) k s < 65536
  | 0 => hs
  | k + 1 => lst16_lt _ 0 (rsh16_lt s hs k) (by omega)
end Go.Proofs.YtgohfbfdhdepnaaDoor.C2
