/-
  The walks over jetsamref18: bits, and the sum by division.
-/
import Derived.Test.YticfmhmkgcdhgaaBo3
import Derived.Test.YticfmhmkgcdhgaaBo4
set_option linter.unusedSimpArgs false
set_option linter.unusedVariables false
namespace Go.Proofs.Yticfmhmkgcdhgaa
open Go.RowKit
open Crc (bits8 bitsOf bits8_le bitsOf_le lst)

theorem info_int : (Try.prog.info? 3).map (fun i => (i.zero, i.size, i.bytes)) = some (some (.int .i64 0), 1, 8) := by kernel_rfl

theorem bits8_snoc (x d : Nat) (hd : d + 1 ≤ 8) : (bits8 x 8).take (8 - d) = (bits8 x 8).take (8 - (d + 1)) ++ [x / 2 ^ d % 2] := by
  have : d = 0 ∨ d = 1 ∨ d = 2 ∨ d = 3 ∨ d = 4 ∨ d = 5 ∨ d = 6 ∨ d = 7 := by omega
  rcases this with rfl | rfl | rfl | rfl | rfl | rfl | rfl | rfl <;> simp [bits8]
theorem bits8_length (x k : Nat) : (bits8 x k).length = k := by induction k <;> simp_all [bits8]
theorem bitsOf_length (l : List UInt8) : (bitsOf l).length = 8 * l.length := by
  induction l with
  | nil => rfl
  | cons x l ih => simp only [bitsOf, List.flatMap_cons, List.length_append, bits8_length, List.length_cons] at *; omega

set_option maxRecDepth 100000 in
set_option maxHeartbeats 800000 in
theorem Bits_any (l : List UInt8) (A : Option Addr) (c : Nat) (w : World) (hr : Rd w A (bv l)) (hlen : l.length ≤ 1000000) :
    Calls Try.prog 13 #[.slice A l.length c] w fun e w' =>
      ∃ v, e = .returned v ∧ w'.ownsRow w.heap.size 3 1 v (8 * l.length) (nv (bitsOf l)) ∧ Below w.heap.size w w' := by
  have Hr := Lib.hid hr; clear hr
  go_enter Try.func13, Try.ntmps13
  go_wp2_with fail
  go_loopw [3, 4] (fun v i wr => ∃ j : Nat, j ≤ l.length ∧ i = .int .i64 j ∧ wr.ownsRow w.heap.size 3 1 v (8 * j) (nv (bitsOf (l.take j))) ∧ Below w.heap.size w wr) (fun _ i _ => l.length - (intOf i).toNat)
  case atStart => exact ⟨0, by omega, rfl, World.ownsRow_nil w w.heap.size _ 1, by repeat (first | exact Below.refl _ _ | assumption | refine below_drewN ?_ _ | refine Below.drew ?_ | refine Below.alloc ?_ (Nat.le_refl _) _ | refine bal ?_ _ | refine bnext ?_ (by assumption))⟩
  case round =>
    obtain ⟨j, hj, rfl, hown, hb⟩ := hrel
    by_cases hjj : j < l.length
    · obtain ⟨b, o, rfl, hcell⟩ := Hr.out.at_ (j := j) (by rw [bv_length]; exact hjj)
      have e2 := bv_get l j hjj
      rw [List.getElem?_eq_getElem (by rw [bv_length]; exact hjj)] at e2
      rw [Option.some.inj e2] at hcell
      clear e2
      have hx0 := l[j].toNat_lt
      have Ht : Hid (bitsOf (l.take (j + 1)) = bitsOf (l.take j) ++ bits8 l[j].toNat 8) := by
        show _ = _
        rw [List.take_succ_eq_append_getElem hjj]; simp only [bitsOf, List.flatMap_append, List.flatMap_cons, List.flatMap_nil, List.append_nil]
      have Hl8 : Hid ((bitsOf (l.take j)).length = 8 * j) := by
        show _ = _
        rw [bitsOf_length, List.length_take]; omega
      generalize hq : bitsOf (l.take j) = q at *
      clear hq
      generalize hx : l[j].toNat = x at *
      clear hx
      obtain ⟨wo, rfl⟩ : ∃ wo : World, wo = wr := ⟨_, rfl⟩
      go_wp2_with fail
      go_loopw [3, 5] (fun v i wr => ∃ d : Nat, d ≤ 8 ∧ i = .int .i64 ((d : Int) - 1) ∧ wr.ownsRow w.heap.size 3 1 v (8 * j + (8 - d)) (nv (q ++ (bits8 x 8).take (8 - d))) ∧ Below w.heap.size w wr) (fun _ i _ => (intOf i + 1).toNat)
      case atStart => exact ⟨8, by omega, rfl, by simpa using hown, hb⟩
      case round =>
        obtain ⟨d, hd, rfl, hown2, hb2⟩ := hrel
        by_cases hdd : d = 0
        · subst hdd
          go_wp2_with fail
          go_roundw
          case rel =>
            refine ⟨j + 1, by omega, by go_num, ?_, hb2⟩
            rw [Ht.out]
            rw [List.take_of_length_le (by rw [bits8_length]; exact Nat.le_refl 8)] at hown2
            exact hown2
          case measure => simp [intOf] <;> omega
        · obtain ⟨d, rfl⟩ : ∃ d', d = d' + 1 := ⟨d - 1, by omega⟩
          have Hown := Lib.hid hown2; clear hown2
          have hcell2 := (hb2.cell (p := ⟨b, o + j, none⟩) (cell_lt hcell)).trans hcell
          clear hcell
          clear hown
          have hd0 : (0 : Int) ≤ d := by omega
          have hd1 : ((d + 1 : Nat) : Int) - 1 = d := by omega
          rw [hd1]
          clear hd1
          go_wp2_with (at_builtin; refine app1 (w0 := w) rfl _ _ 32 rfl Try.underlying32 info_int rfl (by decide) rfl Hown.out (Nat.le_refl _) hb2.size hb2 rfl rfl (one_int _ _) (by omega) (by unfold maxLen; omega) ?_; intro v1 w1 own1 hb1 hs1; have Hown1 := Lib.hid own1; clear own1)
          go_roundw
          case rel =>
            refine ⟨d, by omega, rfl, ?_, hb1⟩
            have h := Hown1.out
            have e2 : ((x : Int) / 2 ^ d).tmod 2 = ((x / 2 ^ d % 2 : Nat) : Int) := by
              rw [show ((x : Int) / 2 ^ d) = ((x / 2 ^ d : Nat) : Int) from by simp]
              rfl
            rw [e2] at h
            rw [bits8_snoc x d hd, ← List.append_assoc, nv_append]
            rw [show 8 * j + (8 - (d + 1)) + 1 = 8 * j + (8 - d) from by omega] at h
            exact h
          case measure => simp [intOf] <;> omega
    · obtain rfl : j = l.length := by omega
      go_wp2_with fail
      go_ret
      refine ⟨_, rfl, ?_, hb⟩
      rw [List.take_of_length_le (Nat.le_refl _)] at hown
      exact hown

def lft (l : List Nat) : Nat := (l ++ List.replicate 16 0).foldl (lst 65536 32773) 0
theorem lstx (s b : Nat) (hs : s < 65536) (hb : b ≤ 1) (h : 65536 ≤ 2 * s + b) : (2 * s + b) ^^^ 98309 = lst 65536 32773 s b := by
  rw [lst, if_pos h]
  have h1 : 2 * s + b = 65536 + (2 * s + b - 65536) := by omega
  have h2 := Crc.p16.add_xor (r := 2 * s + b - 65536) (by omega)
  conv => lhs; rw [h1, h2]
  rw [show (98309 : Nat) = 65536 ^^^ 32773 from by decide, Nat.xor_assoc, ← Nat.xor_assoc (2 * s + b - 65536), Nat.xor_comm (2 * s + b - 65536) 65536, Nat.xor_assoc 65536, ← Nat.xor_assoc 65536 65536, Nat.xor_self, Nat.zero_xor]
theorem xor_intx (s b : Nat) (hs : s < 65536) (hb : b ≤ 1) (h : 65536 ≤ 2 * s + b) : bits .xor .i64 (2 * (s : Int) + b) 98309 = ((lst 65536 32773 s b : Nat) : Int) := by
  rw [← lstx s b hs hb h, show (2 * (s : Int) + b) = ((2 * s + b : Nat) : Int) from by omega]
  exact i64_xor_nat _ 98309 (by omega) (by omega)
theorem xor_intxz (s : Nat) (hs : s < 65536) (h : 65536 ≤ 2 * s) : bits .xor .i64 (2 * (s : Int)) 98309 = ((lst 65536 32773 s 0 : Nat) : Int) := by
  have := xor_intx s 0 hs (by omega) (by omega)
  simpa using this

set_option maxRecDepth 100000 in
set_option maxHeartbeats 800000 in
theorem Sum_any (l : List Nat) (hb : ∀ b ∈ l, b ≤ 1) (A : Option Addr) (c : Nat) (w : World) (hr : Rd w A (nv l)) (hlen : (l.length : Int) ≤ 100000000) :
    Calls Try.prog 20 #[.slice A l.length c] w fun e w' =>
      e = .returned (.int .i64 (lft l)) ∧ Below w.heap.size w w' := by
  have Hr := Lib.hid hr; clear hr
  have Hb := Lib.hid hb; clear hb
  go_enter Try.func20, Try.ntmps20
  go_wp2_with fail
  go_loop [3, 4] (fun v i => ∃ k : Nat, k ≤ l.length + 16 ∧ i = .int .i64 k ∧ v = .int .i64 (((l ++ List.replicate 16 0).take k).foldl (lst 65536 32773) 0 : Nat)) (fun _ i => l.length + 16 - (intOf i).toNat)
  case atStart => exact ⟨0, by omega, rfl, rfl⟩
  case round =>
    obtain ⟨k, hk, rfl, rfl⟩ := hrel
    have Hlt : Hid (((l ++ List.replicate 16 0).take k).foldl (lst 65536 32773) 0 < 65536) := by
      refine Crc.p16.lfold_lt _ (fun b hb => ?_) 0 (by omega)
      have hb := List.mem_of_mem_take hb
      rcases List.mem_append.1 hb with h | h
      · exact Hb.out b h
      · have := List.eq_of_mem_replicate h; omega
    by_cases hkk : k < l.length + 16
    · have hk2 : k < (l ++ List.replicate 16 0).length := by simp; omega
      have Ht : Hid (((l ++ List.replicate 16 0).take (k + 1)).foldl (lst 65536 32773) 0 = lst 65536 32773 (((l ++ List.replicate 16 0).take k).foldl (lst 65536 32773) 0) ((l ++ List.replicate 16 0)[k]'hk2)) := by
        show _ = _
        rw [List.take_succ_eq_append_getElem hk2, List.foldl_append]; rfl
      by_cases hkl : k < l.length
      · obtain ⟨b, o, rfl, hcell⟩ := Hr.out.at_ (j := k) (by rw [nv_length]; exact hkl)
        have e2 := nv_get l k hkl
        rw [List.getElem?_eq_getElem (by rw [nv_length]; exact hkl)] at e2
        rw [Option.some.inj e2] at hcell
        clear e2
        have hb1 := Hb.out _ (List.getElem_mem hkl)
        have eb : (l ++ List.replicate 16 0)[k]'hk2 = l[k] := List.getElem_append_left hkl
        rw [eb] at Ht
        clear eb
        generalize hq : ((l ++ List.replicate 16 0).take k).foldl (lst 65536 32773) 0 = q at *
        clear hq
        generalize hx : l[k] = x at *
        clear hx
        have hlt0 := Hlt.out
        have Hlt0 := Lib.hid hlt0
        have hlt : q < 65536 := hlt0
        clear hlt0
        by_cases h : (2 * q + x : Int) ≥ 65536
        · have E := Lib.hid (xor_intx q x Hlt0.out hb1 (by omega))
          go_wp2_with fail
          go_round
          case rel =>
            refine ⟨k + 1, by omega, by go_num, ?_⟩
            rw [Ht.out, ← E.out]
          case measure => simp [intOf] <;> omega
        · have E : Hid (lst 65536 32773 q x = 2 * q + x) := if_neg (by omega)
          go_wp2_with fail
          go_round
          case rel =>
            refine ⟨k + 1, by omega, by go_num, ?_⟩
            rw [Ht.out, E.out]; go_num
          case measure => simp [intOf] <;> omega
      · have eb : (l ++ List.replicate 16 0)[k]'hk2 = 0 := by rw [List.getElem_append_right (by omega), List.getElem_replicate]
        rw [eb] at Ht
        clear eb
        generalize hq : ((l ++ List.replicate 16 0).take k).foldl (lst 65536 32773) 0 = q at *
        clear hq
        have hlt0 := Hlt.out
        have Hlt0 := Lib.hid hlt0
        have hlt : q < 65536 := hlt0
        clear hlt0
        by_cases h : (2 * q : Int) ≥ 65536
        · have E := Lib.hid (xor_intxz q Hlt0.out (by omega))
          go_wp2_with fail
          go_round
          case rel =>
            refine ⟨k + 1, by omega, by go_num, ?_⟩
            rw [Ht.out, ← E.out]
          case measure => simp [intOf] <;> omega
        · have E : Hid (lst 65536 32773 q 0 = 2 * q) := if_neg (by omega)
          go_wp2_with fail
          go_round
          case rel =>
            refine ⟨k + 1, by omega, by go_num, ?_⟩
            rw [Ht.out, E.out]; go_num
          case measure => simp [intOf] <;> omega
    · obtain rfl : k = l.length + 16 := by omega
      go_wp2_with fail
      go_ret
      refine ⟨ret_int ?_, Below.refl _ _⟩
      rw [List.take_of_length_le (by simp)]; rfl

theorem step16_eq : step16 = Crc.L 65536 98309 := rfl
theorem nxt16_eq (s x : Nat) : nxt16 s x = Crc.nxt 65536 98309 (2 ^ (16 - 8)) s x := by
  unfold nxt16 Crc.nxt one16
  rw [step16_eq, show (65535 : Nat) = 2 ^ 16 - 1 from rfl, Nat.and_two_pow_sub_one_eq_mod]
theorem crc16_eq (s : Nat) (l : List UInt8) : crc16 s l = Crc.crc 65536 98309 (2 ^ (16 - 8)) s l := by
  unfold crc16 Crc.crc
  congr 1
  funext s x
  exact nxt16_eq _ _
theorem lft_eq (l : List UInt8) : lft (bitsOf l) = crc16 0 l := by rw [crc16_eq, Crc.p16.tells]; rfl
/-- A text with its sum behind it. -/
def sealL (l : List UInt8) : List UInt8 := l ++ [UInt8.ofNat (crc16 0 l / 256), UInt8.ofNat (crc16 0 l)]
theorem sealL_length (l : List UInt8) : (sealL l).length = l.length + 2 := by simp [sealL]
theorem sealL_sum (l : List UInt8) : crc16 0 (sealL l) = 0 := by
  have h := crc16_lt 0 (by decide) l
  have h1 := Crc.p16.seal2 rfl (crc16 0 l) h
  rw [sealL, crc16_append]
  show nxt16 (nxt16 (crc16 0 l) _) _ = 0
  rw [nxt16_eq, nxt16_eq]
  simp only [UInt8.toNat_ofNat']
  rw [Nat.mod_eq_of_lt (show crc16 0 l / 256 < 2 ^ 8 from by omega)]
  exact h1
end Go.Proofs.Yticfmhmkgcdhgaa
