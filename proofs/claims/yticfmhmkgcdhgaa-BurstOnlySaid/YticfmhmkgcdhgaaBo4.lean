/-
  The walks over jetsam/sums: the sum of a frame's bytes.
-/
import Derived.Test.YticfmhmkgcdhgaaRows
import Derived.Test.YticfmhmkgcdhgaaBo1
import Derived.WalkSpells
import Derived.Deep.QuietTactic
import Derived.BigQuiet
import Derived.Deep.RegionHeld3
import Derived.Deep.DeepCutAuto
import Derived.OwnWalk
import Derived.KernelRfl
set_option linter.unusedSimpArgs false
set_option linter.unusedVariables false
namespace Go.Proofs.Yticfmhmkgcdhgaa
open Go.RowKit

def step16 (s : Nat) : Nat := if 65536 ≤ 2 * s then (2 * s) ^^^ 98309 else 2 * s
theorem xor_low16 (s : Nat) (hs : s < 65536) (h : 65536 ≤ 2 * s) : (2 * s) ^^^ 98309 < 65536 := by
  refine Nat.lt_pow_two_of_testBit (n := 16) _ fun i hi => ?_
  rw [Nat.testBit_xor]
  have e : ∀ n, n < 131072 → 65536 ≤ n → n.testBit i = decide (i = 16) := by
    intro n h1 h2
    by_cases e : i = 16
    · subst e
      rw [Nat.testBit_eq_decide_div_mod_eq]
      simp
      omega
    · rw [decide_eq_false e]
      exact Nat.testBit_lt_two_pow (Nat.lt_of_lt_of_le h1 (Nat.pow_le_pow_right (n := 2) (by decide) (show 17 ≤ i by omega)))
  rw [e _ (by omega) h, e 98309 (by decide) (by decide)]
  simp
theorem step16_lt (s : Nat) (hs : s < 65536) : step16 s < 65536 := by
  unfold step16; split
  · exact xor_low16 s hs (by assumption)
  · omega

set_option maxHeartbeats 400000 in
theorem step16_any (s : Nat) (hs : s < 65536) (w : World) :
    Calls Try.prog 43 #[.agg #[.int .i64 16, .int .i64 32773], .int .i64 s] w fun e w' =>
      e = .returned (.int .i64 (step16 s)) ∧ Below w.heap.size w w' := by
  by_cases h : 65536 ≤ 2 * s
  · have h1 : ((s:Int) * 2 / 65536 != 0) = true := by rw [bne_iff_ne]; omega
    have h2 : step16 s = (2 * s) ^^^ 98309 := if_pos h
    have h3 := Lib.hid h2; clear h2
    go_enter Try.func43, Try.ntmps43
    go_wp2
    go_quiet (fail)
    go_wp2
    go_ret
    refine ⟨ret_int ?_, by repeat (first | exact Below.refl _ _ | assumption | refine below_drewN ?_ _ | refine Below.drew ?_ | refine Below.alloc ?_ (Nat.le_refl _) _ | refine bal ?_ _ | refine bnext ?_ (by assumption))⟩
    rw [h3.out]
    have e1 := i64_or_nat 65536 32773 (by omega) (by omega)
    have e2 := i64_xor_nat (2 * s) 98309 (by omega) (by omega)
    simp only [Int.natCast_mul, Int.cast_ofNat_Int] at e1 e2
    rw [e1, Int.mul_comm]
    exact e2
  · have h1 : ((s:Int) * 2 / 65536 != 0) = false := by rw [bne_eq_false_iff_eq]; omega
    have h2 : step16 s = 2 * s := if_neg h
    have h3 := Lib.hid h2; clear h2
    go_enter Try.func43, Try.ntmps43
    go_wp2
    go_ret
    exact ⟨by rw [h3.out]; simp; omega, by repeat (first | exact Below.refl _ _ | assumption | refine below_drewN ?_ _ | refine Below.drew ?_ | refine Below.alloc ?_ (Nat.le_refl _) _ | refine bal ?_ _ | refine bnext ?_ (by assumption))⟩

def one16 (x : Nat) : Nat := it step16 8 (x * 256)
theorem one16_lt (x : Nat) (h : x < 256) : one16 x < 65536 := it_lt step16_lt 8 _ (by omega)
set_option maxHeartbeats 400000 in
theorem one16_any (x : Nat) (hx : x < 256) (w : World) :
    Calls Try.prog 42 #[.agg #[.int .i64 16, .int .i64 32773], .int .i64 x] w fun e w' =>
      e = .returned (.int .i64 (one16 x)) ∧ Below w.heap.size w w' := by
  go_enter Try.func42, Try.ntmps42
  go_wp2_with fail
  go_loopw [5, 11] (fun s i wr => ∃ k : Nat, k ≤ 8 ∧ i = .int .i64 k ∧ s = .int .i64 (it step16 k (x * 256) : Nat) ∧ Below w.heap.size w wr ∧ wr.cell? ⟨w.heap.size, 0, none⟩ = some (.int .i64 16) ∧ wr.cell? ⟨w.heap.size, 1, none⟩ = some (.int .i64 32773) ∧ w.heap.size < wr.heap.size) (fun _ i _ => 8 - (intOf i).toNat)
  case atStart => exact ⟨0, by omega, rfl, by simp [it], by repeat (first | exact Below.refl _ _ | assumption | refine below_drewN ?_ _ | refine Below.drew ?_ | refine Below.alloc ?_ (Nat.le_refl _) _ | refine bal ?_ _ | refine bnext ?_ (by assumption)), by go_simp, by go_simp, by simp⟩
  case round =>
    obtain ⟨k, hk, rfl, rfl, hb, hc0, hc1, hsz⟩ := hrel
    have hlt := it_lt step16_lt k (x * 256) (by omega)
    by_cases hkk : k < 8
    · go_wp2_with (go_at_call 43; refine (step16_any _ hlt _).mono ?_; rintro e w1 ⟨rfl, hb1⟩)
      go_roundw
      case rel =>
        exact ⟨k + 1, by omega, by go_num, rfl, bnext hb hb1, (hb1.cell (p := ⟨w.heap.size, 0, none⟩) hsz).trans hc0, (hb1.cell (p := ⟨w.heap.size, 1, none⟩) hsz).trans hc1, Nat.lt_of_lt_of_le hsz hb1.size⟩
      case measure => simp [intOf] <;> omega
    · obtain rfl : k = 8 := by omega
      go_wp2_with fail
      go_ret
      exact ⟨rfl, hb⟩

def nxt16 (s x : Nat) : Nat := ((s * 256) &&& 65535) ^^^ one16 ((s / 256) ^^^ x)
def crc16 (s : Nat) (l : List UInt8) : Nat := l.foldl (fun s x => nxt16 s x.toNat) s
theorem crc16_snoc (s : Nat) (l : List UInt8) (x : UInt8) : crc16 s (l ++ [x]) = nxt16 (crc16 s l) x.toNat := by simp [crc16]
theorem crc16_append (s : Nat) (l m : List UInt8) : crc16 s (l ++ m) = crc16 (crc16 s l) m := by simp [crc16]
theorem nxt16_lt (s x : Nat) (hs : s < 65536) (hx : x < 256) : nxt16 s x < 65536 := by
  have h : (s / 256) ^^^ x < 256 := Nat.xor_lt_two_pow (n := 8) (by omega) (by omega)
  exact Nat.xor_lt_two_pow (n := 16) (Nat.and_lt_two_pow _ (by omega)) (one16_lt _ h)
theorem crc16_lt (s : Nat) (hs : s < 65536) (l : List UInt8) : crc16 s l < 65536 := by
  induction l generalizing s with
  | nil => exact hs
  | cons x l ih => exact ih _ (nxt16_lt _ _ hs (by have := x.toNat_lt; omega))

set_option maxHeartbeats 800000 in
theorem of16_any (ls : List (List UInt8)) (A : Option Addr) (c : Nat) (w : World) (hv : BSS w (.slice A ls.length c) ls) (hlen : ls.length < 4611686018427387904) (hlens : ∀ l ∈ ls, l.length < 4611686018427387904) :
    Calls Try.prog 41 #[.agg #[.int .i64 16, .int .i64 32773], .func (.func 42) #[.agg #[.int .i64 16, .int .i64 32773]] #[], .slice A ls.length c] w fun e w' =>
      e = .returned (.int .i64 (crc16 0 ls.flatten)) ∧ Below w.heap.size w w' := by
  obtain ⟨A', c', vs, he, hc, hr, hl, hx⟩ := hv
  obtain ⟨rfl, -, rfl⟩ : A = A' ∧ True ∧ c = c' := by injection he with h1 h2 h3; exact ⟨h1, trivial, h3⟩
  have Hl := Lib.hid hl; clear hl he
  have Hx := Lib.hid hx; clear hx
  have Hr := Lib.hid hr; clear hr
  have Hls := Lib.hid hlens; clear hlens
  go_enter Try.func41, Try.ntmps41
  go_wp2_with fail
  go_quiet (fail)
  go_wp2_with fail
  go_loopw [7, 19] (fun s i wr => ∃ j : Nat, j ≤ ls.length ∧ i = .int .i64 j ∧ s = .int .i64 (crc16 0 (ls.take j).flatten) ∧ Below w.heap.size w wr ∧ wr.cell? ⟨w.heap.size, 0, none⟩ = some (.int .i64 16) ∧ wr.cell? ⟨w.heap.size, 1, none⟩ = some (.int .i64 32773) ∧ w.heap.size < wr.heap.size) (fun _ i _ => ls.length - (intOf i).toNat)
  case atStart => exact ⟨0, by omega, rfl, by simp [crc16], by repeat (first | exact Below.refl _ _ | assumption | refine below_drewN ?_ _ | refine Below.drew ?_ | refine Below.alloc ?_ (Nat.le_refl _) _ | refine bal ?_ _ | refine bnext ?_ (by assumption)), by go_simp, by go_simp, by simp⟩
  case round =>
    obtain ⟨j, hj, rfl, rfl, hb, hc0, hc1, hsz⟩ := hrel
    by_cases hjj : j < ls.length
    · have hjv : j < vs.length := by have := Hl.out; omega
      obtain ⟨b, o, rfl, hcell⟩ := (Hr.out.below hb).at_ hjv
      obtain ⟨A1, c1, e1, hc1', hr1⟩ := (Hx.out j vs[j] ls[j] (List.getElem?_eq_getElem hjv) (List.getElem?_eq_getElem hjj)).below hb
      rw [e1] at hcell
      have hl1 := Hls.out _ (List.getElem_mem hjj)
      have Ht : Hid (crc16 0 (ls.take (j + 1)).flatten = crc16 (crc16 0 (ls.take j).flatten) ls[j]) := by
        show _ = _
        rw [List.take_succ_eq_append_getElem hjj, List.flatten_append]
        simp only [List.flatten_cons, List.flatten_nil, List.append_nil]
        exact crc16_append _ _ _
      have hlt0 := crc16_lt 0 (by omega) (ls.take j).flatten
      generalize hq : crc16 0 (ls.take j).flatten = q at *
      clear hq e1
      generalize hlb : ls[j] = lb at *
      clear hlb
      have Hr1 := Lib.hid hr1; clear hr1
      obtain ⟨wo, rfl⟩ : ∃ wo : World, wo = wr := ⟨_, rfl⟩
      go_wp2_with fail
      go_loopw [7, 25] (fun s i wr => ∃ k : Nat, k ≤ lb.length ∧ i = .int .i64 k ∧ s = .int .i64 (crc16 q (lb.take k)) ∧ Below wo.heap.size wo wr ∧ wr.cell? ⟨w.heap.size, 0, none⟩ = some (.int .i64 16) ∧ wr.cell? ⟨w.heap.size, 1, none⟩ = some (.int .i64 32773)) (fun _ i _ => lb.length - (intOf i).toNat)
      case atStart => exact ⟨0, by omega, rfl, by simp [crc16], by repeat (first | exact Below.refl _ _ | assumption | refine below_drewN ?_ _ | refine Below.drew ?_ | refine Below.alloc ?_ (Nat.le_refl _) _ | refine bal ?_ _ | refine bnext ?_ (by assumption)), hc0, hc1⟩
      case round =>
        obtain ⟨k, hk, rfl, rfl, hb2, hd0, hd1⟩ := hrel
        by_cases hkk : k < lb.length
        · obtain ⟨b2, o2, rfl, hcell2⟩ := (Hr1.out.below hb2).at_ (j := k) (by rw [bv_length]; exact hkk)
          have e2 := bv_get lb k hkk
          rw [List.getElem?_eq_getElem (by rw [bv_length]; exact hkk)] at e2
          rw [Option.some.inj e2] at hcell2
          clear e2
          have Ht2 : Hid (crc16 q (lb.take (k + 1)) = nxt16 (crc16 q (lb.take k)) lb[k].toNat) := by
            show _ = _
            rw [List.take_succ_eq_append_getElem hkk]; exact crc16_snoc _ _ _
          have hlt2 := crc16_lt q hlt0 (lb.take k)
          have hx0 := lb[k].toNat_lt
          generalize hq2 : crc16 q (lb.take k) = s at *
          clear hq2
          generalize hx2 : lb[k].toNat = x at *
          clear hx2
          have hin : (s / 256) ^^^ x < 256 := Nat.xor_lt_two_pow (n := 8) (by omega) (by omega)
          have E1 : bits .xor .i64 ((s : Int) / 256) (x : Int) = (((s / 256) ^^^ x : Nat) : Int) := i64_xor_nat _ _ (Nat.lt_of_le_of_lt (m := s) (Nat.div_le_self _ _) (by omega)) (by omega)
          have E2 := i64_and_nat (s * 256) 65535 (by omega) (by omega)
          simp only [Int.natCast_mul, Int.cast_ofNat_Int] at E1 E2
          have HE1 := Lib.hid E1; clear E1
          have HE2 := Lib.hid E2; clear E2
          go_wp2_with fail
          rw [HE1.out]
          refine (one16_any _ hin _).mono ?_
          rintro e w1 ⟨rfl, hb3⟩
          go_wp2_with fail
          go_roundw
          case rel =>
            refine ⟨k + 1, by omega, by go_num, ?_, bnext hb2 hb3, (hb3.cell (p := ⟨w.heap.size, 0, none⟩) (Nat.lt_of_lt_of_le hsz hb2.size)).trans hd0, (hb3.cell (p := ⟨w.heap.size, 1, none⟩) (Nat.lt_of_lt_of_le hsz hb2.size)).trans hd1⟩
            rw [Ht2.out]
            show Value.int .i64 _ = Value.int .i64 _
            rw [HE2.out, i64_xor_nat _ _ (Nat.lt_of_le_of_lt (Nat.and_le_right) (by omega)) (Nat.lt_trans (one16_lt _ hin) (by omega))]
            rfl
          case measure => simp [intOf] <;> omega
        · obtain rfl : k = lb.length := by omega
          go_wp2_with fail
          go_roundw
          case rel =>
            refine ⟨j + 1, by omega, by go_num, ?_, bnext hb hb2, hd0, hd1, Nat.lt_of_lt_of_le hsz hb2.size⟩
            rw [Ht.out, List.take_of_length_le (Nat.le_refl _)]
          case measure => simp [intOf] <;> omega
    · obtain rfl : j = ls.length := by omega
      go_wp2_with fail
      go_ret
      refine ⟨ret_int ?_, hb⟩
      rw [List.take_of_length_le (Nat.le_refl _)]

set_option maxHeartbeats 400000 in
theorem sixteen_any (w : World) :
    Calls Try.prog 40 #[] w fun e w' => e = .returned (.agg #[.int .i64 16, .int .i64 32773]) ∧ Below w.heap.size w w' := by
  go_enter Try.func40, Try.ntmps40
  go_wp2_with fail
  exact bodyPost_ret (v := .agg #[.int .i64 16, .int .i64 32773]) (by simp [results, Try.results40, go_sem]) rfl ⟨rfl, by repeat (first | exact Below.refl _ _ | assumption | refine below_drewN ?_ _ | refine Below.drew ?_ | refine Below.alloc ?_ (Nat.le_refl _) _ | refine bal ?_ _ | refine bnext ?_ (by assumption))⟩

set_option maxHeartbeats 400000 in
theorem Sum16_any (ls : List (List UInt8)) (A : Option Addr) (c : Nat) (w : World) (hv : BSS w (.slice A ls.length c) ls) (hlen : ls.length < 4611686018427387904) (hlens : ∀ l ∈ ls, l.length < 4611686018427387904) :
    Calls Try.prog 34 #[.slice A ls.length c] w fun e w' =>
      e = .returned (.int .i64 (crc16 0 ls.flatten)) ∧ Below w.heap.size w w' := by
  have Hv := Lib.hid hv; clear hv
  have Hls := Lib.hid hlens; clear hlens
  go_enter Try.func34, Try.ntmps34
  go_wp2_with fail
  refine (sixteen_any _).mono ?_
  rintro e w1 ⟨rfl, hb1⟩
  go_wp2_with fail
  refine (sixteen_any _).mono ?_
  rintro e w2 ⟨rfl, hb2⟩
  go_wp2_with fail
  refine (of16_any ls A c _ ((Hv.out.below hb1).below hb2) hlen Hls.out).mono ?_
  rintro e w3 ⟨rfl, hb3⟩
  go_wp2_with fail
  go_ret
  exact ⟨rfl, bnext (bnext hb1 hb2) hb3⟩

end Go.Proofs.Yticfmhmkgcdhgaa
