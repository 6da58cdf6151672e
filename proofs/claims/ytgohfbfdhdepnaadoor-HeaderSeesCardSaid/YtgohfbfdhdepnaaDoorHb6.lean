/-
  coded.Get: the number with whose code bytes begin.
  The plain laws of chapter 03: codes and what is got of them.
  The walks over jetsam/sums: each function's contract.
  The walks over jetsam/sums: Sum8, Sum16, the shifts.
-/
import Derived.Test.YtgohfbfdhdepnaaDoorHb5
import Derived.Test.YtgohfbfdhdepnaaDoorRows
import Derived.Test.YtgohfbfdhdepnaaDoorHb1
import Derived.WalkSpells
import Derived.Deep.QuietTactic
import Derived.BigQuiet
import Derived.Deep.RegionHeld3
import Derived.Deep.DeepCutAuto
import Derived.OwnWalk
import Derived.KernelRfl
set_option linter.unusedSimpArgs false
set_option linter.unusedVariables false
namespace Go.Proofs.YtgohfbfdhdepnaaDoor.C3
open Go.RowKit

/-- How many ones a byte begins with. -/
def onesOf (x : Nat) : Nat := if x < 128 then 0 else if x < 192 then 1 else if x < 224 then 2 else if x < 240 then 3 else if x < 248 then 4 else if x < 252 then 5 else if x < 254 then 6 else if x < 255 then 7 else 8
theorem onesOf_le (x : Nat) : onesOf x ≤ 8 := by unfold onesOf; (repeat' split) <;> omega
theorem ones_iff : ∀ x, x < 256 → ∀ k, k < 8 → k ≤ onesOf x → ((x / 2 ^ (7 - k) % 2 = 1) ↔ k < onesOf x) := by decide +kernel
/-- The bytes behind the first one: what number they make of n, or what is wrong. -/
def cont : Nat → Nat → List Nat → Nat × Nat
  | 0, n, _ => (n, 0)
  | _ + 1, _, [] => (0, 11)
  | k + 1, n, x :: r => if 128 ≤ x ∧ x < 192 then cont k (n * 64 + x % 64) r else (0, 12)
/-- What Get answers: number, size, error. -/
def getR : List Nat → Nat × Nat × Nat
  | [] => (0, 0, 11)
  | x :: r => if onesOf x = 0 then (x, 1, 0) else if onesOf x = 1 ∨ onesOf x = 8 then (0, 0, 12) else
      if (cont (onesOf x - 1) (x % 2 ^ (7 - onesOf x)) r).2 ≠ 0 then (0, 0, (cont (onesOf x - 1) (x % 2 ^ (7 - onesOf x)) r).2)
      else if szN (cont (onesOf x - 1) (x % 2 ^ (7 - onesOf x)) r).1 = onesOf x then ((cont (onesOf x - 1) (x % 2 ^ (7 - onesOf x)) r).1, onesOf x, 0) else (0, 0, 12)

theorem getR_cons (x : Nat) (r : List Nat) : getR (x :: r) = if onesOf x = 0 then (x, 1, 0) else if onesOf x = 1 ∨ onesOf x = 8 then (0, 0, 12) else
      if (cont (onesOf x - 1) (x % 2 ^ (7 - onesOf x)) r).2 ≠ 0 then (0, 0, (cont (onesOf x - 1) (x % 2 ^ (7 - onesOf x)) r).2)
      else if szN (cont (onesOf x - 1) (x % 2 ^ (7 - onesOf x)) r).1 = onesOf x then ((cont (onesOf x - 1) (x % 2 ^ (7 - onesOf x)) r).1, onesOf x, 0) else (0, 0, 12) := rfl
theorem cont_lt : ∀ (k n : Nat) (r : List Nat) (b : Nat), n < b → (cont k n r).2 = 0 → (cont k n r).1 < b * 64 ^ k
  | 0, n, r, b, h, _ => by simpa [cont] using h
  | k + 1, n, [], b, h, e => by simp [cont] at e
  | k + 1, n, x :: r, b, h, e => by
    unfold cont at e ⊢
    split at e
    · rename_i hx
      rw [if_pos hx]
      have := cont_lt k (n * 64 + x % 64) r (b * 64) (by omega) e
      rw [Nat.pow_succ, Nat.mul_comm (64 ^ k) 64, ← Nat.mul_assoc]
      exact this
    · simp at e

theorem ofInt_u8' (a : Nat) (h : a < 256) : (BitVec.ofInt 8 (a : Int)).toNat = a := by
  rw [BitVec.toNat_ofInt]; omega
theorem u8_and_nat (a b : Nat) (ha : a < 256) (hb : b < 256) : bits .and .u8 (a : Int) (b : Int) = ((a &&& b : Nat) : Int) := by
  have hx : a &&& b < 2 ^ 8 := Nat.and_lt_two_pow _ (by omega)
  show IntKind.u8.wrap ((BitVec.ofInt 8 (a : Int) &&& BitVec.ofInt 8 (b : Int)).toNat : Int) = _
  rw [BitVec.toNat_and, ofInt_u8' a ha, ofInt_u8' b hb]
  simp only [IntKind.wrap, IntKind.bits, IntKind.signed]
  simp
  omega
theorem bit_u8 (x j : Nat) (hx : x < 256) : bits .and .u8 ((x : Int) / 2 ^ j) 1 = ((x / 2 ^ j % 2 : Nat) : Int) := by
  have := u8_and_nat (x / 2 ^ j) 1 (Nat.lt_of_le_of_lt (Nat.div_le_self _ _) hx) (by omega)
  rw [Nat.and_one_is_mod] at this
  rw [← this]
  simp

theorem mark_iff : ∀ y, y < 256 → (y &&& 192 = 128 ↔ 128 ≤ y ∧ y < 192) := by decide +kernel
theorem mask_eq (k : Nat) (h1 : 2 ≤ k) (h2 : k ≤ 7) : wrap64 (wrap64 ((2 : Int) ^ (7 - k)) - 1) = ((2 ^ (7 - k) - 1 : Nat) : Int) := by
  have hk : k = 2 ∨ k = 3 ∨ k = 4 ∨ k = 5 ∨ k = 6 ∨ k = 7 := by omega
  rcases hk with rfl | rfl | rfl | rfl | rfl | rfl <;> decide +kernel
theorem drop_cons (r : List Nat) (j : Nat) (h : j < r.length) : r.drop j = r[j] :: r.drop (j + 1) := List.drop_eq_getElem_cons h

theorem cont_nil (k n : Nat) : cont (k + 1) n [] = (0, 11) := rfl
theorem cont_no (k n x : Nat) (r : List Nat) (h : ¬ (128 ≤ x ∧ x < 192)) : cont (k + 1) n (x :: r) = (0, 12) := if_neg h
theorem cont_yes (k n x : Nat) (r : List Nat) (h : 128 ≤ x ∧ x < 192) : cont (k + 1) n (x :: r) = cont k (n * 64 + x % 64) r := if_pos h
theorem pow64_le (k j : Nat) (h1 : 2 ≤ k) (h2 : k ≤ 7) (h3 : j ≤ k) (h4 : 1 ≤ j) : 2 ^ (7 - k) * 64 ^ (j - 1) ≤ 68719476736 := by
  have h : (2 : Nat) ^ (7 - k) * 64 ^ (j - 1) = 2 ^ (7 - k + 6 * (j - 1)) := by rw [show (64 : Nat) = 2 ^ 6 from rfl, ← Nat.pow_mul, ← Nat.pow_add]
  rw [h]
  exact Nat.le_trans (Nat.pow_le_pow_right (by omega) (show 7 - k + 6 * (j - 1) ≤ 36 by omega)) (by decide)

set_option maxRecDepth 100000 in
set_option maxHeartbeats 1000000 in
theorem get_any (l : List Nat) (hl8 : ∀ x ∈ l, x < 256) (A : Option Addr) (c : Nat) (w : World) (hr : Rd w A (nv8 l)) (hlen : l.length < 9223372036854775807) (ht : TabAt w) :
    Calls Tryd.prog 46 #[.slice A l.length c] w fun e w' => e = .returned (.tuple #[.int .i64 ((getR l).1 : Nat), .int .i64 ((getR l).2.1 : Nat), .int .i64 ((getR l).2.2 : Nat)]) ∧ Below w.heap.size w w' := by
  have Hr := Lib.hid hr; clear hr
  have Ht := Lib.hid ht; clear ht
  have H8 := Lib.hid hl8; clear hl8
  cases l with
  | nil =>
    go_enter Tryd.func46, Tryd.ntmps46
    go_wp2_with fail
    go_step3
    go_wp2_with fail
    try rw [Exit.noGoto_ret]
    go_ret3
    exact ⟨rfl, Below.refl _ _⟩
  | cons x r =>
    have hx : x < 256 := H8.out x (List.mem_cons_self ..)
    obtain ⟨b, o, rfl, hc0⟩ := Hr.out 0 (.int .u8 x) rfl
    rw [Nat.add_zero] at hc0
    obtain ⟨N, hN⟩ : ∃ N, (x :: r).length = N := ⟨_, rfl⟩
    have hN0 : 0 < N := by rw [← hN]; simp
    rw [hN] at hlen
    rw [hN]
    have HN : Hid (N = r.length + 1) := hN.symm
    clear hN
    have hnz : ((N : Int) == 0) = false := by rw [beq_eq_false_iff_ne]; omega
    have Ho := ones_iff x hx
    have Ho := Lib.hid Ho
    have ho8 := onesOf_le x
    obtain ⟨s, hs⟩ : ∃ s, onesOf x = s := ⟨_, rfl⟩
    rw [hs] at ho8 Ho
    have Hs := Lib.hid hs
    clear hs
    go_enter Tryd.func46, Tryd.ntmps46
    go_wp2_with fail
    go_step3
    go_wp2_with fail
    go_loopw [3] (fun i wr => ∃ k : Nat, k ≤ s ∧ i = .int .i64 k ∧ w = wr) (fun i _ => 9 - (intOf i).toNat)
    case atStart => exact ⟨0, by omega, rfl, rfl⟩
    case round =>
      obtain ⟨k, hk, rfl, rfl⟩ := hrel
      by_cases hkk : k < s
      · have hbit := (Ho.out k (by omega) hk).2 hkk
        have hk7 : (k : Int) ≤ 7 := by omega
        have e1 : (7 - (k : Int)) = ((7 - k : Nat) : Int) := by omega
        have hq : (bits .and .u8 ((x : Int) / 2 ^ (7 - k)) 1 == 1) = true := by rw [bit_u8 x _ hx, hbit]; rfl
        go_wp2_with fail
        go_roundw
        case rel => exact ⟨k + 1, by omega, by go_num, trivial⟩
        case measure => simp [intOf] <;> omega
      · obtain rfl : k = s := by omega
        rcases Nat.lt_or_ge 7 k with h8 | h8
        · have hg : getR (x :: r) = (0, 0, 12) := by
            rw [getR_cons, Hs.out, if_neg (by omega), if_pos (by omega)]
          have hk7 : ¬ (k : Int) ≤ 7 := by omega
          have k0 : ((k : Int) == 0) = false := by rw [beq_eq_false_iff_ne]; omega
          have k1 : ((k : Int) == 1) = false := by rw [beq_eq_false_iff_ne]; omega
          have k7 : (7 : Int) < k := by omega
          have Hg := Lib.hid hg
          clear hg
          go_wp2_with fail
          try rw [Exit.noGoto_ret]
          go_ret3
          exact ⟨by rw [Hg.out]; rfl, Below.refl _ _⟩
        · have hbit : x / 2 ^ (7 - k) % 2 = 0 := by
            have h1 : ¬ (x / 2 ^ (7 - k) % 2 = 1) := fun h => absurd ((Ho.out k (by omega) (Nat.le_refl _)).1 h) (by omega)
            omega
          have hk7 : (k : Int) ≤ 7 := by omega
          have e1 : (7 - (k : Int)) = ((7 - k : Nat) : Int) := by omega
          have hq : (bits .and .u8 ((x : Int) / 2 ^ (7 - k)) 1 == 1) = false := by rw [bit_u8 x _ hx, hbit]; rfl
          rcases Nat.eq_zero_or_pos k with hk0 | hk0
          · have k0 : ((k : Int) == 0) = true := by rw [beq_iff_eq]; omega
            have Hg : Hid (getR (x :: r) = (x, 1, 0)) := by
              show _ = _
              rw [getR_cons, Hs.out, if_pos hk0]
            clear hk0
            go_wp2_with fail
            try rw [Exit.noGoto_ret]
            go_ret3
            exact ⟨by rw [Hg.out]; rfl, Below.refl _ _⟩
          · have k0 : ((k : Int) == 0) = false := by rw [beq_eq_false_iff_ne]; omega
            by_cases hk1 : k = 1
            · have k1 : ((k : Int) == 1) = true := by rw [beq_iff_eq]; omega
              have Hg : Hid (getR (x :: r) = (0, 0, 12)) := by
                show _ = _
                rw [getR_cons, Hs.out, if_neg (by omega), if_pos (.inl hk1)]
              clear hk1
              go_wp2_with fail
              try rw [Exit.noGoto_ret]
              go_ret3
              exact ⟨by rw [Hg.out]; rfl, Below.refl _ _⟩
            · have k1 : ((k : Int) == 1) = false := by rw [beq_eq_false_iff_ne]; omega
              have k7 : ¬ (7 : Int) < k := by omega
              obtain ⟨n0, hn0⟩ : ∃ n, x % 2 ^ (7 - k) = n := ⟨_, rfl⟩
              obtain ⟨R, hR⟩ : ∃ R, cont (k - 1) n0 r = R := ⟨_, rfl⟩
              have Hg : Hid (getR (x :: r) = if R.2 ≠ 0 then (0, 0, R.2) else if szN R.1 = k then (R.1, k, 0) else (0, 0, 12)) := by
                show _ = _
                rw [getR_cons, Hs.out, if_neg (by omega), if_neg (by omega), hn0, hR]
              have hn0' : n0 < 2 ^ (7 - k) := by rw [← hn0]; exact Nat.mod_lt _ (Nat.two_pow_pos _)
              have HR := Lib.hid hR
              clear hR
              go_wp2_with fail
              go_quiet (fail)
              have E0 : bits .and .i64 (x : Int) (wrap64 (wrap64 ((2 : Int) ^ (7 - k)) - 1)) = (n0 : Int) := by
                rw [mask_eq k (by omega) (by omega), i64_and_nat x _ (by omega) (by have : 2 ^ (7 - k) ≤ 2 ^ 7 := Nat.pow_le_pow_right (by omega) (by omega); omega), Nat.and_two_pow_sub_one_eq_mod, hn0]
              rw [E0]
              clear E0
              generalize wrap64 (wrap64 ((2 : Int) ^ (7 - k)) - 1) = z1
              generalize wrap64 ((2 : Int) ^ (7 - k)) = z2
              clear hn0
              go_wp2_with fail
              go_step3
              go_wp2_with fail
              go_loopw [2, 4, 5] (fun nv ev iv wr2 => ∃ j m : Nat, 1 ≤ j ∧ j ≤ k ∧ iv = .int .i64 j ∧ ev = .int .i64 0 ∧ nv = .int .i64 m ∧ Hid (cont (k - j) m (r.drop (j - 1)) = R) ∧ Hid (m < 2 ^ (7 - k) * 64 ^ (j - 1)) ∧ Hid (Below w.heap.size w wr2)) (fun _ _ iv _ => k - (intOf iv).toNat)
              case atStart => exact ⟨1, n0, by omega, by omega, rfl, rfl, rfl, HR.out, by simpa [Hid] using hn0', by show Below _ _ _; repeat (first | exact Below.refl _ _ | assumption | refine below_drewN ?_ _ | refine Below.drew ?_ | refine Below.alloc ?_ (Nat.le_refl _) _ | refine bal ?_ _ | refine bnext ?_ (by assumption))⟩
              case round =>
                obtain ⟨j, m, hj1, hj, rfl, rfl, rfl, Hcn, Hm, Hb⟩ := hrel
                have hm := Nat.lt_of_lt_of_le Hm.out (pow64_le k j (by omega) (by omega) hj hj1)
                by_cases hjj : j < k
                · obtain ⟨q, hq2⟩ : ∃ q, k - j = q + 1 := ⟨k - j - 1, by omega⟩
                  by_cases hjN : j < N
                  · have hjr : j - 1 < r.length := by have := HN.out; omega
                    obtain ⟨b', o', hbo, hcj⟩ := (Hr.out.below Hb.out) j (.int .u8 r[j - 1]) (by
                      obtain ⟨j', rfl⟩ : ∃ j', j = j' + 1 := ⟨j - 1, by omega⟩
                      simp only [nv8, List.map_cons, List.getElem?_cons_succ, List.getElem?_map]
                      rw [List.getElem?_eq_getElem (by simpa using hjr)]; simp)
                    injection hbo with hbo; injection hbo with hb1 hb2; subst hb1; subst hb2
                    have hy : r[j - 1] < 256 := H8.out _ (List.mem_cons_of_mem _ (List.getElem_mem hjr))
                    have hcn := Hcn.out
                    rw [hq2, drop_cons r (j - 1) hjr] at hcn
                    generalize r[j - 1] = y at *
                    by_cases hmk : 128 ≤ y ∧ y < 192
                    · have hq : (bits .and .u8 (y : Int) 192 != 128) = false := by
                        have h := u8_and_nat y 192 hy (by omega)
                        rw [(mark_iff y hy).2 hmk] at h
                        rw [show (192 : Int) = ((192 : Nat) : Int) from rfl, h]; rfl
                      rw [cont_yes _ _ _ _ hmk] at hcn
                      have HC := Lib.hid hcn
                      have E6 : bits .and .u8 (y : Int) 63 = ((y % 64 : Nat) : Int) := by
                        rw [show (63 : Int) = ((63 : Nat) : Int) from rfl, u8_and_nat y 63 hy (by omega), show y &&& 63 = y % 64 from Nat.and_two_pow_sub_one_eq_mod y 6]
                      have E7 : bits .or .i64 ((m : Int) * 64) ((y : Int) % 64) = ((m * 64 + y % 64 : Nat) : Int) := by
                        have h := i64_or_nat (m * 64) (y % 64) (by omega) (by omega)
                        rw [show m * 64 = m * 2 ^ 6 from rfl, or_add m 6 (y % 64) (by omega)] at h
                        simpa using h
                      have HE7 := Lib.hid E7
                      clear hcn hmk E7
                      go_wp2_with fail
                      go_roundw
                      case rel =>
                        refine ⟨j + 1, m * 64 + y % 64, by omega, by omega, by go_num, rfl, by rw [HE7.out], ?_, ?_, Hb⟩
                        · show _ = _
                          rw [show k - (j + 1) = q from by omega, show j + 1 - 1 = j - 1 + 1 from by omega]
                          exact HC.out
                        · show _ < _
                          have h := Hm.out
                          have h2 : 2 ^ (7 - k) * 64 ^ (j + 1 - 1) = 2 ^ (7 - k) * 64 ^ (j - 1) * 64 := by
                            rw [show j + 1 - 1 = j - 1 + 1 from by omega, Nat.pow_succ, Nat.mul_assoc]
                          rw [h2]
                          omega
                      case measure => simp [intOf] <;> omega
                    · have hq : (bits .and .u8 (y : Int) 192 != 128) = true := by
                        have h := u8_and_nat y 192 hy (by omega)
                        have h2 : y &&& 192 ≠ 128 := fun e => hmk ((mark_iff y hy).1 e)
                        rw [show (192 : Int) = ((192 : Nat) : Int) from rfl, h, bne_iff_ne]; omega
                      rw [cont_no _ _ _ _ hmk] at hcn
                      have HC : Hid (getR (x :: r) = (0, 0, 12)) := by
                        show _ = _
                        rw [Hg.out, ← hcn]; rfl
                      clear hcn hmk
                      go_wp2_with fail
                      try rw [Exit.noGoto_ret]
                      go_ret3
                      exact ⟨by rw [HC.out]; rfl, Hb.out⟩
                  · have hcn := Hcn.out
                    rw [hq2, List.drop_eq_nil_of_le (by have := HN.out; omega), cont_nil] at hcn
                    have HC : Hid (getR (x :: r) = (0, 0, 11)) := by
                      show _ = _
                      rw [Hg.out, ← hcn]; rfl
                    clear hcn
                    go_wp2_with fail
                    try rw [Exit.noGoto_ret]
                    go_ret3
                    exact ⟨by rw [HC.out]; rfl, Hb.out⟩
                · obtain rfl : j = k := by omega
                  have hcn := Hcn.out
                  rw [Nat.sub_self] at hcn
                  have HC : Hid (getR (x :: r) = if szN m = j then (m, j, 0) else (0, 0, 12)) := by
                    show _ = _
                    rw [Hg.out, ← hcn]; rfl
                  clear hcn
                  go_wp2_with fail
                  refine (len_ok m hm _ (Ht.out.below Hb.out)).mono ?_
                  rintro e w3 ⟨rfl, rfl⟩
                  by_cases hz : szN m = j
                  · have hz' : ((szN m : Int) != (j : Int)) = false := by rw [bne_eq_false_iff_eq]; omega
                    have HC2 : Hid (getR (x :: r) = (m, j, 0)) := HC.out.trans (if_pos hz)
                    clear hz
                    go_wp2_with fail
                    try rw [Exit.noGoto_ret]
                    go_ret3
                    exact ⟨by rw [HC2.out]; rfl, Hb.out⟩
                  · have hz' : ((szN m : Int) != (j : Int)) = true := by rw [bne_iff_ne]; omega
                    have HC2 : Hid (getR (x :: r) = (0, 0, 12)) := HC.out.trans (if_neg hz)
                    clear hz
                    go_wp2_with fail
                    try rw [Exit.noGoto_ret]
                    go_ret3
                    exact ⟨by rw [HC2.out]; rfl, Hb.out⟩
end Go.Proofs.YtgohfbfdhdepnaaDoor.C3

namespace Go.Proofs.YtgohfbfdhdepnaaDoor.C3

/-- The bytes behind a code's first one. -/
def digL (n : Nat) : Nat → List Nat
  | 0 => []
  | d + 1 => (128 + n / 64 ^ d % 64) :: digL n d
theorem digL_length (n : Nat) : ∀ d, (digL n d).length = d
  | 0 => rfl
  | d + 1 => by simp [digL, digL_length n d]
theorem digL_in (n : Nat) : ∀ d, ∀ x ∈ digL n d, 128 ≤ x ∧ x < 192
  | 0, x, h => by simp [digL] at h
  | d + 1, x, h => by
    simp only [digL, List.mem_cons] at h
    rcases h with rfl | h
    · omega
    · exact digL_in n d x h
theorem pow64 (d : Nat) : (64 : Nat) ^ d = 2 ^ (6 * d) := by rw [show (64 : Nat) = 2 ^ 6 from rfl, ← Nat.pow_mul]
theorem part0 (n k : Nat) : partN n k 0 = n / 64 ^ (k - 1) := by unfold partN; rw [pow64]; rfl
theorem map_digL (n : Nat) : ∀ d, ((List.range d).map fun j => 128 + n / 64 ^ (d - 1 - j) % 64) = digL n d
  | 0 => rfl
  | d + 1 => by
    rw [List.range_succ_eq_map, List.map_cons, List.map_map]
    show _ :: _ = _ :: digL n d
    rw [← map_digL n d]
    congr 1
    refine List.map_congr_left fun j hj => ?_
    have := List.mem_range.1 hj
    show 128 + n / 64 ^ (d + 1 - 1 - (j + 1)) % 64 = _
    rw [show d + 1 - 1 - (j + 1) = d - 1 - j from by omega]
theorem codeN_dig (n : Nat) (h : szN n ≠ 1) : codeN n = firstV n (szN n) :: digL n (szN n - 1) := by
  unfold codeN
  rw [if_neg h, ← map_digL]
  congr 1
  refine List.map_congr_left fun j hj => ?_
  have := List.mem_range.1 hj
  show 128 + n / 2 ^ (6 * (szN n - 1 - (j + 1))) % 64 = _
  rw [pow64, show szN n - 1 - 1 - j = szN n - 1 - (j + 1) from by omega]
theorem codeN_one (n : Nat) (h : szN n = 1) : codeN n = [n] ∧ n < 128 := by
  refine ⟨if_pos h, ?_⟩
  unfold szN at h; (repeat' split at h) <;> omega

theorem div64 (n d : Nat) : n / 64 ^ (d + 1) = n / 64 ^ d / 64 := by rw [Nat.pow_succ, Nat.div_div_eq_div_mul]
theorem cont_code (n : Nat) (b : List Nat) : ∀ d, cont d (n / 64 ^ d) (digL n d ++ b) = (n, 0)
  | 0 => by simp [cont]
  | d + 1 => by
    show cont (d + 1) _ ((128 + n / 64 ^ d % 64) :: (digL n d ++ b)) = _
    rw [cont_yes _ _ _ _ (by omega), show n / 64 ^ (d + 1) * 64 + (128 + n / 64 ^ d % 64) % 64 = n / 64 ^ d from by rw [div64]; omega]
    exact cont_code n b d
theorem cont_short : ∀ (d m : Nat) (l : List Nat), (∀ x ∈ l, 128 ≤ x ∧ x < 192) → l.length < d → cont d m l = (0, 11)
  | 0, _, _, _, h => by omega
  | _ + 1, _, [], _, _ => rfl
  | d + 1, m, x :: l, h1, h2 => by
    rw [cont_yes _ _ _ _ (h1 x (List.mem_cons_self ..))]
    exact cont_short d _ l (fun y hy => h1 y (List.mem_cons_of_mem _ hy)) (by simp at h2; omega)
theorem cont_back : ∀ (d p m : Nat) (r : List Nat), cont d p r = (m, 0) → d ≤ r.length ∧ m / 64 ^ d = p ∧ r.take d = digL m d
  | 0, p, m, r, h => by
    simp [cont] at h; subst h
    simp [digL]
  | d + 1, p, m, [], h => by simp [cont] at h
  | d + 1, p, m, x :: r, h => by
    by_cases hx : 128 ≤ x ∧ x < 192
    · rw [cont_yes _ _ _ _ hx] at h
      obtain ⟨h1, h2, h3⟩ := cont_back d _ m r h
      refine ⟨by simp; omega, by rw [div64, h2]; omega, ?_⟩
      show x :: r.take d = (128 + m / 64 ^ d % 64) :: digL m d
      rw [h3, h2]
      congr 1
      omega
    · rw [cont_no _ _ _ _ hx] at h
      simp at h

theorem ones_first (n : Nat) (hn : n < 68719476736) (h : szN n ≠ 1) : onesOf (firstV n (szN n)) = szN n ∧ firstV n (szN n) % 2 ^ (7 - szN n) = n / 64 ^ (szN n - 1) ∧ firstV n (szN n) < 256 := by
  have hp := part_lt n hn h
  have hs := szN_pos n
  have hf : firstV n (szN n) = 256 - 2 ^ (8 - szN n) + partN n (szN n) 0 := rfl
  rw [hf, ← part0]
  generalize partN n (szN n) 0 = p at *
  generalize szN n = k at *
  have hk : k = 2 ∨ k = 3 ∨ k = 4 ∨ k = 5 ∨ k = 6 ∨ k = 7 := by omega
  unfold onesOf
  rcases hk with rfl | rfl | rfl | rfl | rfl | rfl <;> simp only [Nat.reduceSub, Nat.reducePow] at hp ⊢ <;> refine ⟨?_, by omega, by omega⟩ <;> (repeat' split) <;> omega
theorem codeN_lt (n : Nat) (hn : n < 68719476736) : ∀ x ∈ codeN n, x < 256 := by
  intro x hx
  by_cases h : szN n = 1
  · obtain ⟨e, h128⟩ := codeN_one n h
    rw [e, List.mem_singleton] at hx; omega
  · rw [codeN_dig n h, List.mem_cons] at hx
    rcases hx with rfl | hx
    · exact (ones_first n hn h).2.2
    · have := digL_in n _ x hx; omega
/-- Get of Put is the number, whatever is behind it. -/
theorem getR_code (n : Nat) (hn : n < 68719476736) (b : List Nat) : getR (codeN n ++ b) = (n, szN n, 0) := by
  by_cases h : szN n = 1
  · obtain ⟨e, h128⟩ := codeN_one n h
    rw [e, h]
    show getR (n :: b) = _
    rw [getR_cons, if_pos (by unfold onesOf; rw [if_pos h128])]
  · obtain ⟨h1, h2, h3⟩ := ones_first n hn h
    have hs := szN_pos n
    rw [codeN_dig n h, List.cons_append, getR_cons, h1, if_neg (by omega), if_neg (by omega), h2, cont_code]
    simp
/-- A code's beginning is none. -/
theorem getR_part (n : Nat) (hn : n < 68719476736) (i : Nat) (hi : i < szN n) : getR ((codeN n).take i) = (0, 0, 11) := by
  cases i with
  | zero => rfl
  | succ i =>
    have h : szN n ≠ 1 := by omega
    obtain ⟨h1, h2, h3⟩ := ones_first n hn h
    have hs := szN_pos n
    rw [codeN_dig n h, List.take_succ_cons, getR_cons, h1, if_neg (by omega), if_neg (by omega), cont_short _ _ _ (fun x hx => digL_in n _ x (List.mem_of_mem_take hx)) (by rw [List.length_take, digL_length]; omega)]
    simp
theorem ones_range : ∀ x, x < 256 → 2 ≤ onesOf x → onesOf x ≤ 7 → 256 - 2 ^ (8 - onesOf x) + x % 2 ^ (7 - onesOf x) = x := by decide +kernel
theorem ones_zero : ∀ x, x < 256 → onesOf x = 0 → x < 128 := by decide +kernel
/-- What was got is a code. -/
theorem getR_ok (l : List Nat) (hl : ∀ x ∈ l, x < 256) (h : (getR l).2.2 = 0) : (getR l).1 < 68719476736 ∧ (getR l).2.1 = szN (getR l).1 ∧ szN (getR l).1 ≤ l.length ∧ codeN (getR l).1 = l.take (szN (getR l).1) := by
  cases l with
  | nil => simp [getR] at h
  | cons x r =>
    have hx := hl x (List.mem_cons_self ..)
    rw [getR_cons] at h ⊢
    have hle := onesOf_le x
    split at h
    · rename_i h0
      rw [if_pos h0]
      have h128 : x < 128 := ones_zero x hx h0
      have hz : szN x = 1 := if_pos h128
      refine ⟨by simp only []; omega, by simp only []; rw [hz], by simp only []; rw [hz]; simp, ?_⟩
      simp only []
      rw [hz, (codeN_one x hz).1]; rfl
    · rename_i h0
      rw [if_neg h0]
      split at h
      · simp at h
      · rename_i h1
        rw [if_neg h1]
        split at h
        · rename_i h2; exact absurd h h2
        · rename_i h2
          rw [if_neg h2]
          split at h
          · rename_i h3
            rw [if_pos h3]
            have h2' : (cont (onesOf x - 1) (x % 2 ^ (7 - onesOf x)) r).2 = 0 := by omega
            have hlt := cont_lt (onesOf x - 1) (x % 2 ^ (7 - onesOf x)) r _ (Nat.mod_lt _ (Nat.two_pow_pos _)) h2'
            obtain ⟨c1, c2, c3⟩ := cont_back (onesOf x - 1) (x % 2 ^ (7 - onesOf x)) (cont (onesOf x - 1) (x % 2 ^ (7 - onesOf x)) r).1 r (Prod.ext rfl h2')
            generalize (cont (onesOf x - 1) (x % 2 ^ (7 - onesOf x)) r).1 = m at *
            have hm : m < 68719476736 := by
              refine Nat.lt_of_lt_of_le hlt ?_
              rw [pow64, ← Nat.pow_add]
              exact Nat.le_trans (Nat.pow_le_pow_right (by omega) (show 7 - onesOf x + 6 * (onesOf x - 1) ≤ 36 by omega)) (by decide)
            have hs1 : szN m ≠ 1 := by omega
            refine ⟨hm, h3.symm, by show szN m ≤ r.length + 1; omega, ?_⟩
            show codeN m = (x :: r).take (szN m)
            obtain ⟨f1, f2, f3⟩ := ones_first m hm hs1
            have hfx : firstV m (szN m) = x := by
              rw [h3] at f1 f2 ⊢
              rw [c2] at f2
              have hff : firstV m (onesOf x) = 256 - 2 ^ (8 - onesOf x) + partN m (onesOf x) 0 := rfl
              rw [part0, c2] at hff
              rw [hff]
              exact ones_range x hx (by omega) (by omega)
            rw [codeN_dig m hs1, hfx, h3, ← c3]
            obtain ⟨q, hq⟩ : ∃ q, onesOf x = q + 1 := ⟨onesOf x - 1, by omega⟩
            rw [hq]; rfl
          · simp at h
/-- With an error there is no number. -/
theorem getR_err (l : List Nat) (h : (getR l).2.2 ≠ 0) : (getR l).1 = 0 ∧ (getR l).2.1 = 0 := by
  cases l with
  | nil => exact ⟨rfl, rfl⟩
  | cons x r =>
    rw [getR_cons] at h ⊢
    split at h
    · simp at h
    · rename_i h0
      rw [if_neg h0]
      split at h
      · rename_i h1; rw [if_pos h1]; exact ⟨rfl, rfl⟩
      · rename_i h1
        rw [if_neg h1]
        split at h
        · rename_i h2; rw [if_pos h2]; exact ⟨rfl, rfl⟩
        · rename_i h2
          rw [if_neg h2]
          split at h
          · simp at h
          · rename_i h3; rw [if_neg h3]; exact ⟨rfl, rfl⟩
/-- Behind a code's first byte none begins. -/
theorem getR_in (n : Nat) (b : List Nat) (i : Nat) (h1 : 0 < i) (hi : i < szN n) : getR ((codeN n ++ b).drop i) = (0, 0, 12) := by
  have h : szN n ≠ 1 := by omega
  have hl := codeN_length n
  rw [List.drop_append_of_le_length (by omega)]
  have hcat := codeN_at n i h1 hi
  rw [List.drop_eq_getElem_cons (by omega)]
  rw [List.getElem?_eq_getElem (by omega)] at hcat
  rw [Option.some.inj hcat, List.cons_append, getR_cons]
  have ho : onesOf (restV n (szN n) i) = 1 := by
    have hv : restV n (szN n) i = 128 + partN n (szN n) i % 64 := rfl
    rw [hv]
    unfold onesOf
    rw [if_neg (by omega), if_pos (by omega)]
  rw [ho, if_neg (by omega), if_pos (.inl rfl)]

/-- A code's byte. -/
def bt (n i : Nat) : Nat := (codeN n).getD i 0
theorem szN_mono (n m : Nat) (h : n ≤ m) : szN n ≤ szN m := by unfold szN; (repeat' split) <;> omega
set_option maxHeartbeats 2000000 in
theorem ones_mono (x y : Nat) (h : x ≤ y) : onesOf x ≤ onesOf y := by unfold onesOf; (repeat' split) <;> omega
theorem bt_ones (n : Nat) (hn : n < 68719476736) : onesOf (bt n 0) = if szN n = 1 then 0 else szN n := by
  unfold bt
  by_cases h : szN n = 1
  · obtain ⟨e, h128⟩ := codeN_one n h
    rw [e, if_pos h]
    show onesOf n = 0
    unfold onesOf; rw [if_pos h128]
  · rw [codeN_dig n h, if_neg h]
    exact (ones_first n hn h).1
theorem bt0 (n m : Nat) (h : szN n = szN m) : (bt n 0 < bt m 0 ↔ n / 64 ^ (szN n - 1) < m / 64 ^ (szN n - 1)) ∧ (bt n 0 = bt m 0 ↔ n / 64 ^ (szN n - 1) = m / 64 ^ (szN n - 1)) := by
  unfold bt
  by_cases h1 : szN n = 1
  · rw [(codeN_one n h1).1, (codeN_one m (h ▸ h1)).1, h1]; simp
  · rw [codeN_dig n h1, codeN_dig m (h ▸ h1)]
    show (firstV n (szN n) < firstV m (szN m) ↔ _) ∧ (firstV n (szN n) = firstV m (szN m) ↔ _)
    unfold firstV
    rw [← h, part0, part0]
    omega
theorem bt_succ (n i : Nat) (hi : i + 1 < szN n) : bt n (i + 1) = 128 + n / 64 ^ (szN n - 1 - (i + 1)) % 64 := by
  have := codeN_at n (i + 1) (by omega) hi
  unfold bt
  rw [List.getD_eq_getElem?_getD, this]
  show 128 + n / 2 ^ (6 * (szN n - 1 - (i + 1))) % 64 = _
  rw [pow64]
/-- Of codes of one length that agree so far the numbers do. -/
theorem bt_agree (n m : Nat) (h : szN n = szN m) : ∀ i, i < szN n → (∀ j, j ≤ i → bt n j = bt m j) → n / 64 ^ (szN n - 1 - i) = m / 64 ^ (szN n - 1 - i)
  | 0, _, e => (bt0 n m h).2.1 (e 0 (Nat.le_refl _))
  | i + 1, hi, e => by
    have ih := bt_agree n m h i (by omega) (fun j hj => e j (by omega))
    have e1 := e (i + 1) (Nat.le_refl _)
    rw [bt_succ n i hi, bt_succ m i (h ▸ hi), ← h] at e1
    rw [show szN n - 1 - i = szN n - 1 - (i + 1) + 1 from by omega, div64, div64] at ih
    generalize n / 64 ^ (szN n - 1 - (i + 1)) = x at *
    generalize m / 64 ^ (szN n - 1 - (i + 1)) = y at *
    omega
theorem div_lt_of {n m d : Nat} (h : n / d < m / d) : n < m := by
  rcases Nat.lt_or_ge n m with h1 | h1
  · exact h1
  · have := Nat.div_le_div_right (c := d) h1; omega
theorem size_first (n m : Nat) (hn : n < 68719476736) (hm : m < 68719476736) (h : szN n < szN m) : bt n 0 < bt m 0 ∧ n < m := by
  have a := bt_ones n hn
  have b := bt_ones m hm
  have hs := szN_pos n
  constructor
  · rcases Nat.lt_or_ge (bt n 0) (bt m 0) with h1 | h1
    · exact h1
    · have := ones_mono _ _ h1
      rw [a, b] at this
      split at this <;> split at this <;> omega
  · rcases Nat.lt_or_ge n m with h1 | h1
    · exact h1
    · have := szN_mono _ _ h1; omega
theorem order_diff (n m : Nat) (hn : n < 68719476736) (hm : m < 68719476736) (i : Nat) (hi : i < szN n) (hi' : i < szN m) (heq : ∀ j, j < i → bt n j = bt m j) (hne : bt n i ≠ bt m i) : (bt n i < bt m i ↔ n < m) ∧ n ≠ m := by
  have hnm : n ≠ m := fun e => hne (by rw [e])
  refine ⟨?_, hnm⟩
  have key : szN n = szN m → (bt n i < bt m i ↔ n / 64 ^ (szN n - 1 - i) < m / 64 ^ (szN n - 1 - i)) ∧ n / 64 ^ (szN n - 1 - i) ≠ m / 64 ^ (szN n - 1 - i) := by
    intro h
    cases i with
    | zero => exact ⟨(bt0 n m h).1, fun e => hne ((bt0 n m h).2.2 e)⟩
    | succ i =>
      have ag := bt_agree n m h i (by omega) (fun j hj => heq j (by omega))
      rw [bt_succ n i hi, bt_succ m i hi', ← h] at hne ⊢
      rw [show szN n - 1 - i = szN n - 1 - (i + 1) + 1 from by omega, div64, div64] at ag
      generalize n / 64 ^ (szN n - 1 - (i + 1)) = x at *
      generalize m / 64 ^ (szN n - 1 - (i + 1)) = y at *
      omega
  have same : szN n = szN m → (bt n i < bt m i ↔ n < m) := by
    intro h
    obtain ⟨k1, k2⟩ := key h
    rw [k1]
    constructor
    · exact div_lt_of
    · intro hlt
      have := Nat.div_le_div_right (c := 64 ^ (szN n - 1 - i)) (Nat.le_of_lt hlt)
      omega
  rcases Nat.lt_trichotomy (szN n) (szN m) with h | h | h
  · obtain ⟨a, b⟩ := size_first n m hn hm h
    have h0 : i = 0 := by
      rcases Nat.eq_zero_or_pos i with h0 | h0
      · exact h0
      · have := heq 0 h0; omega
    subst h0
    exact ⟨fun _ => b, fun _ => a⟩
  · exact same h
  · obtain ⟨a, b⟩ := size_first m n hm hn h
    have h0 : i = 0 := by
      rcases Nat.eq_zero_or_pos i with h0 | h0
      · exact h0
      · have := heq 0 h0; omega
    subst h0
    exact ⟨fun h => by omega, fun h => by omega⟩
theorem order_same (n m : Nat) (hn : n < 68719476736) (hm : m < 68719476736) (heq : ∀ j, j < szN n → j < szN m → bt n j = bt m j) : n = m := by
  have hs := szN_pos n
  have hs' := szN_pos m
  rcases Nat.lt_trichotomy (szN n) (szN m) with h | h | h
  · have := (size_first n m hn hm h).1
    have := heq 0 (by omega) (by omega); omega
  · have := bt_agree n m h (szN n - 1) (by omega) (fun j hj => heq j (by omega) (by omega))
    simpa using this
  · have := (size_first m n hm hn h).1
    have := heq 0 (by omega) (by omega); omega
end Go.Proofs.YtgohfbfdhdepnaaDoor.C3

namespace Go.Proofs.YtgohfbfdhdepnaaDoor.C2
open Go.RowKit

def step8 (s : Nat) : Nat := if 256 ≤ 2 * s then (2 * s) ^^^ 263 else 2 * s
def step16 (s : Nat) : Nat := if 65536 ≤ 2 * s then (2 * s) ^^^ 98309 else 2 * s

theorem xor_low8 (s : Nat) (hs : s < 256) (h : 256 ≤ 2 * s) : (2 * s) ^^^ 263 < 256 := by
  have : ∀ s : Fin 256, 256 ≤ 2 * s.val → (2 * s.val) ^^^ 263 < 256 := by decide +kernel
  exact this ⟨s, hs⟩ h
theorem step8_lt (s : Nat) (hs : s < 256) : step8 s < 256 := by
  unfold step8; split
  · exact xor_low8 s hs (by assumption)
  · omega
theorem xor_low16 (s : Nat) (hs : s < 65536) (h : 65536 ≤ 2 * s) : (2 * s) ^^^ 98309 < 65536 := by
  refine Nat.lt_pow_two_of_testBit (n := 16) _ fun i hi => ?_
  rw [Nat.testBit_xor]
  have e : ∀ n, n < 131072 → 65536 ≤ n → n.testBit i = decide (i = 16) := by
    intro n h1 h2
    by_cases e : i = 16
    · subst e
      rw [Nat.testBit_eq_decide_div_mod_eq]
      simp
      omega
    · rw [decide_eq_false e]
      exact Nat.testBit_lt_two_pow (Nat.lt_of_lt_of_le h1 (Nat.pow_le_pow_right (n := 2) (by decide) (show 17 ≤ i by omega)))
  rw [e _ (by omega) h, e 98309 (by decide) (by decide)]
  simp
theorem step16_lt (s : Nat) (hs : s < 65536) : step16 s < 65536 := by
  unfold step16; split
  · exact xor_low16 s hs (by assumption)
  · omega

set_option maxHeartbeats 400000 in
theorem step8_any (s : Nat) (hs : s < 256) (w : World) :
    Calls Tryd.prog 64 #[.agg #[.int .i64 8, .int .i64 7], .int .i64 s] w fun e w' =>
      e = .returned (.int .i64 (step8 s)) ∧ Below w.heap.size w w' := by
  by_cases h : 256 ≤ 2 * s
  · have h1 : ((s:Int) * 2 / 256 != 0) = true := by rw [bne_iff_ne]; omega
    have h2 : step8 s = (2 * s) ^^^ 263 := if_pos h
    have h3 := Lib.hid h2; clear h2
    go_enter Tryd.func64, Tryd.ntmps64
    go_wp2
    go_quiet (fail)
    go_wp2
    go_ret
    refine ⟨ret_int ?_, by repeat (first | exact Below.refl _ _ | assumption | refine below_drewN ?_ _ | refine Below.drew ?_ | refine Below.alloc ?_ (Nat.le_refl _) _ | refine bal ?_ _ | refine bnext ?_ (by assumption))⟩
    rw [h3.out]
    have e1 := i64_or_nat 256 7 (by omega) (by omega)
    have e2 := i64_xor_nat (2 * s) 263 (by omega) (by omega)
    simp only [Int.natCast_mul, Int.cast_ofNat_Int] at e1 e2
    rw [e1, Int.mul_comm]
    exact e2
  · have h1 : ((s:Int) * 2 / 256 != 0) = false := by rw [bne_eq_false_iff_eq]; omega
    have h2 : step8 s = 2 * s := if_neg h
    have h3 := Lib.hid h2; clear h2
    go_enter Tryd.func64, Tryd.ntmps64
    go_wp2
    go_ret
    exact ⟨by rw [h3.out]; simp; omega, by repeat (first | exact Below.refl _ _ | assumption | refine below_drewN ?_ _ | refine Below.drew ?_ | refine Below.alloc ?_ (Nat.le_refl _) _ | refine bal ?_ _ | refine bnext ?_ (by assumption))⟩
set_option maxHeartbeats 400000 in
theorem step16_any (s : Nat) (hs : s < 65536) (w : World) :
    Calls Tryd.prog 64 #[.agg #[.int .i64 16, .int .i64 32773], .int .i64 s] w fun e w' =>
      e = .returned (.int .i64 (step16 s)) ∧ Below w.heap.size w w' := by
  by_cases h : 65536 ≤ 2 * s
  · have h1 : ((s:Int) * 2 / 65536 != 0) = true := by rw [bne_iff_ne]; omega
    have h2 : step16 s = (2 * s) ^^^ 98309 := if_pos h
    have h3 := Lib.hid h2; clear h2
    go_enter Tryd.func64, Tryd.ntmps64
    go_wp2
    go_quiet (fail)
    go_wp2
    go_ret
    refine ⟨ret_int ?_, by repeat (first | exact Below.refl _ _ | assumption | refine below_drewN ?_ _ | refine Below.drew ?_ | refine Below.alloc ?_ (Nat.le_refl _) _ | refine bal ?_ _ | refine bnext ?_ (by assumption))⟩
    rw [h3.out]
    have e1 := i64_or_nat 65536 32773 (by omega) (by omega)
    have e2 := i64_xor_nat (2 * s) 98309 (by omega) (by omega)
    simp only [Int.natCast_mul, Int.cast_ofNat_Int] at e1 e2
    rw [e1, Int.mul_comm]
    exact e2
  · have h1 : ((s:Int) * 2 / 65536 != 0) = false := by rw [bne_eq_false_iff_eq]; omega
    have h2 : step16 s = 2 * s := if_neg h
    have h3 := Lib.hid h2; clear h2
    go_enter Tryd.func64, Tryd.ntmps64
    go_wp2
    go_ret
    exact ⟨by rw [h3.out]; simp; omega, by repeat (first | exact Below.refl _ _ | assumption | refine below_drewN ?_ _ | refine Below.drew ?_ | refine Below.alloc ?_ (Nat.le_refl _) _ | refine bal ?_ _ | refine bnext ?_ (by assumption))⟩

def one8 (x : Nat) : Nat := it step8 8 (x)
theorem one8_lt (x : Nat) (h : x < 256) : one8 x < 256 := it_lt step8_lt 8 _ (by omega)
set_option maxHeartbeats 400000 in
theorem one8_any (x : Nat) (hx : x < 256) (w : World) :
    Calls Tryd.prog 57 #[.agg #[.int .i64 8, .int .i64 7], .int .i64 x] w fun e w' =>
      e = .returned (.int .i64 (one8 x)) ∧ Below w.heap.size w w' := by
  go_enter Tryd.func57, Tryd.ntmps57
  go_wp2_with fail
  go_loopw [5, 11] (fun s i wr => ∃ k : Nat, k ≤ 8 ∧ i = .int .i64 k ∧ s = .int .i64 (it step8 k (x) : Nat) ∧ Below w.heap.size w wr ∧ wr.cell? ⟨w.heap.size, 0, none⟩ = some (.int .i64 8) ∧ wr.cell? ⟨w.heap.size, 1, none⟩ = some (.int .i64 7) ∧ w.heap.size < wr.heap.size) (fun _ i _ => 8 - (intOf i).toNat)
  case atStart => exact ⟨0, by omega, rfl, by simp [it], by repeat (first | exact Below.refl _ _ | assumption | refine below_drewN ?_ _ | refine Below.drew ?_ | refine Below.alloc ?_ (Nat.le_refl _) _ | refine bal ?_ _ | refine bnext ?_ (by assumption)), by go_simp, by go_simp, by simp⟩
  case round =>
    obtain ⟨k, hk, rfl, rfl, hb, hc0, hc1, hsz⟩ := hrel
    have hlt := it_lt step8_lt k (x) (by omega)
    by_cases hkk : k < 8
    · go_wp2_with (go_at_call 64; refine (step8_any _ hlt _).mono ?_; rintro e w1 ⟨rfl, hb1⟩)
      go_roundw
      case rel =>
        exact ⟨k + 1, by omega, by go_num, rfl, bnext hb hb1, (hb1.cell (p := ⟨w.heap.size, 0, none⟩) hsz).trans hc0, (hb1.cell (p := ⟨w.heap.size, 1, none⟩) hsz).trans hc1, Nat.lt_of_lt_of_le hsz hb1.size⟩
      case measure => simp [intOf] <;> omega
    · obtain rfl : k = 8 := by omega
      go_wp2_with fail
      go_ret
      exact ⟨rfl, hb⟩

def one16 (x : Nat) : Nat := it step16 8 (x * 256)
theorem one16_lt (x : Nat) (h : x < 256) : one16 x < 65536 := it_lt step16_lt 8 _ (by omega)
set_option maxHeartbeats 400000 in
theorem one16_any (x : Nat) (hx : x < 256) (w : World) :
    Calls Tryd.prog 57 #[.agg #[.int .i64 16, .int .i64 32773], .int .i64 x] w fun e w' =>
      e = .returned (.int .i64 (one16 x)) ∧ Below w.heap.size w w' := by
  go_enter Tryd.func57, Tryd.ntmps57
  go_wp2_with fail
  go_loopw [5, 11] (fun s i wr => ∃ k : Nat, k ≤ 8 ∧ i = .int .i64 k ∧ s = .int .i64 (it step16 k (x * 256) : Nat) ∧ Below w.heap.size w wr ∧ wr.cell? ⟨w.heap.size, 0, none⟩ = some (.int .i64 16) ∧ wr.cell? ⟨w.heap.size, 1, none⟩ = some (.int .i64 32773) ∧ w.heap.size < wr.heap.size) (fun _ i _ => 8 - (intOf i).toNat)
  case atStart => exact ⟨0, by omega, rfl, by simp [it], by repeat (first | exact Below.refl _ _ | assumption | refine below_drewN ?_ _ | refine Below.drew ?_ | refine Below.alloc ?_ (Nat.le_refl _) _ | refine bal ?_ _ | refine bnext ?_ (by assumption)), by go_simp, by go_simp, by simp⟩
  case round =>
    obtain ⟨k, hk, rfl, rfl, hb, hc0, hc1, hsz⟩ := hrel
    have hlt := it_lt step16_lt k (x * 256) (by omega)
    by_cases hkk : k < 8
    · go_wp2_with (go_at_call 64; refine (step16_any _ hlt _).mono ?_; rintro e w1 ⟨rfl, hb1⟩)
      go_roundw
      case rel =>
        exact ⟨k + 1, by omega, by go_num, rfl, bnext hb hb1, (hb1.cell (p := ⟨w.heap.size, 0, none⟩) hsz).trans hc0, (hb1.cell (p := ⟨w.heap.size, 1, none⟩) hsz).trans hc1, Nat.lt_of_lt_of_le hsz hb1.size⟩
      case measure => simp [intOf] <;> omega
    · obtain rfl : k = 8 := by omega
      go_wp2_with fail
      go_ret
      exact ⟨rfl, hb⟩

def nxt8 (s x : Nat) : Nat := ((s * 256) &&& 255) ^^^ one8 (s ^^^ x)
def crc8 (s : Nat) (l : List UInt8) : Nat := l.foldl (fun s x => nxt8 s x.toNat) s
theorem crc8_snoc (s : Nat) (l : List UInt8) (x : UInt8) : crc8 s (l ++ [x]) = nxt8 (crc8 s l) x.toNat := by simp [crc8]
theorem crc8_append (s : Nat) (l m : List UInt8) : crc8 s (l ++ m) = crc8 (crc8 s l) m := by simp [crc8]
theorem nxt8_lt (s x : Nat) (hs : s < 256) (hx : x < 256) : nxt8 s x < 256 := by
  have h : s ^^^ x < 256 := Nat.xor_lt_two_pow (n := 8) (by omega) (by omega)
  exact Nat.xor_lt_two_pow (n := 8) (Nat.and_lt_two_pow _ (by omega)) (one8_lt _ h)
theorem crc8_lt (s : Nat) (hs : s < 256) (l : List UInt8) : crc8 s l < 256 := by
  induction l generalizing s with
  | nil => exact hs
  | cons x l ih => exact ih _ (nxt8_lt _ _ hs (by have := x.toNat_lt; omega))

set_option maxHeartbeats 800000 in
theorem of8_any (ls : List (List UInt8)) (A : Option Addr) (c : Nat) (w : World) (hv : BSS w (.slice A ls.length c) ls) (hlen : ls.length < 4611686018427387904) (hlens : ∀ l ∈ ls, l.length < 4611686018427387904) :
    Calls Tryd.prog 56 #[.agg #[.int .i64 8, .int .i64 7], .func (.func 57) #[.agg #[.int .i64 8, .int .i64 7]] #[], .slice A ls.length c] w fun e w' =>
      e = .returned (.int .i64 (crc8 0 ls.flatten)) ∧ Below w.heap.size w w' := by
  obtain ⟨A', c', vs, he, hc, hr, hl, hx⟩ := hv
  obtain ⟨rfl, -, rfl⟩ : A = A' ∧ True ∧ c = c' := by injection he with h1 h2 h3; exact ⟨h1, trivial, h3⟩
  have Hl := Lib.hid hl; clear hl he
  have Hx := Lib.hid hx; clear hx
  have Hr := Lib.hid hr; clear hr
  have Hls := Lib.hid hlens; clear hlens
  go_enter Tryd.func56, Tryd.ntmps56
  go_wp2_with fail
  go_quiet (fail)
  go_wp2_with fail
  go_loopw [7, 19] (fun s i wr => ∃ j : Nat, j ≤ ls.length ∧ i = .int .i64 j ∧ s = .int .i64 (crc8 0 (ls.take j).flatten) ∧ Below w.heap.size w wr ∧ wr.cell? ⟨w.heap.size, 0, none⟩ = some (.int .i64 8) ∧ wr.cell? ⟨w.heap.size, 1, none⟩ = some (.int .i64 7) ∧ w.heap.size < wr.heap.size) (fun _ i _ => ls.length - (intOf i).toNat)
  case atStart => exact ⟨0, by omega, rfl, by simp [crc8], by repeat (first | exact Below.refl _ _ | assumption | refine below_drewN ?_ _ | refine Below.drew ?_ | refine Below.alloc ?_ (Nat.le_refl _) _ | refine bal ?_ _ | refine bnext ?_ (by assumption)), by go_simp, by go_simp, by simp⟩
  case round =>
    obtain ⟨j, hj, rfl, rfl, hb, hc0, hc1, hsz⟩ := hrel
    by_cases hjj : j < ls.length
    · have hjv : j < vs.length := by have := Hl.out; omega
      obtain ⟨b, o, rfl, hcell⟩ := (Hr.out.below hb).at_ hjv
      obtain ⟨A1, c1, e1, hc1', hr1⟩ := (Hx.out j vs[j] ls[j] (List.getElem?_eq_getElem hjv) (List.getElem?_eq_getElem hjj)).below hb
      rw [e1] at hcell
      have hl1 := Hls.out _ (List.getElem_mem hjj)
      have Ht : Hid (crc8 0 (ls.take (j + 1)).flatten = crc8 (crc8 0 (ls.take j).flatten) ls[j]) := by
        show _ = _
        rw [List.take_succ_eq_append_getElem hjj, List.flatten_append]
        simp only [List.flatten_cons, List.flatten_nil, List.append_nil]
        exact crc8_append _ _ _
      have hlt0 := crc8_lt 0 (by omega) (ls.take j).flatten
      generalize hq : crc8 0 (ls.take j).flatten = q at *
      clear hq e1
      generalize hlb : ls[j] = lb at *
      clear hlb
      have Hr1 := Lib.hid hr1; clear hr1
      obtain ⟨wo, rfl⟩ : ∃ wo : World, wo = wr := ⟨_, rfl⟩
      go_wp2_with fail
      go_loopw [7, 25] (fun s i wr => ∃ k : Nat, k ≤ lb.length ∧ i = .int .i64 k ∧ s = .int .i64 (crc8 q (lb.take k)) ∧ Below wo.heap.size wo wr ∧ wr.cell? ⟨w.heap.size, 0, none⟩ = some (.int .i64 8) ∧ wr.cell? ⟨w.heap.size, 1, none⟩ = some (.int .i64 7)) (fun _ i _ => lb.length - (intOf i).toNat)
      case atStart => exact ⟨0, by omega, rfl, by simp [crc8], by repeat (first | exact Below.refl _ _ | assumption | refine below_drewN ?_ _ | refine Below.drew ?_ | refine Below.alloc ?_ (Nat.le_refl _) _ | refine bal ?_ _ | refine bnext ?_ (by assumption)), hc0, hc1⟩
      case round =>
        obtain ⟨k, hk, rfl, rfl, hb2, hd0, hd1⟩ := hrel
        by_cases hkk : k < lb.length
        · obtain ⟨b2, o2, rfl, hcell2⟩ := (Hr1.out.below hb2).at_ (j := k) (by rw [bv_length]; exact hkk)
          have e2 := bv_get lb k hkk
          rw [List.getElem?_eq_getElem (by rw [bv_length]; exact hkk)] at e2
          rw [Option.some.inj e2] at hcell2
          clear e2
          have Ht2 : Hid (crc8 q (lb.take (k + 1)) = nxt8 (crc8 q (lb.take k)) lb[k].toNat) := by
            show _ = _
            rw [List.take_succ_eq_append_getElem hkk]; exact crc8_snoc _ _ _
          have hlt2 := crc8_lt q hlt0 (lb.take k)
          have hx0 := lb[k].toNat_lt
          generalize hq2 : crc8 q (lb.take k) = s at *
          clear hq2
          generalize hx2 : lb[k].toNat = x at *
          clear hx2
          have hin : s ^^^ x < 256 := Nat.xor_lt_two_pow (n := 8) (by omega) (by omega)
          have E1 : bits .xor .i64 ((s : Int)) (x : Int) = ((s ^^^ x : Nat) : Int) := i64_xor_nat _ _ (Nat.lt_of_le_of_lt (m := s) (Nat.le_refl _) (by omega)) (by omega)
          have E2 := i64_and_nat (s * 256) 255 (by omega) (by omega)
          simp only [Int.natCast_mul, Int.cast_ofNat_Int] at E1 E2
          have HE1 := Lib.hid E1; clear E1
          have HE2 := Lib.hid E2; clear E2
          go_wp2_with fail
          rw [HE1.out]
          refine (one8_any _ hin _).mono ?_
          rintro e w1 ⟨rfl, hb3⟩
          go_wp2_with fail
          go_roundw
          case rel =>
            refine ⟨k + 1, by omega, by go_num, ?_, bnext hb2 hb3, (hb3.cell (p := ⟨w.heap.size, 0, none⟩) (Nat.lt_of_lt_of_le hsz hb2.size)).trans hd0, (hb3.cell (p := ⟨w.heap.size, 1, none⟩) (Nat.lt_of_lt_of_le hsz hb2.size)).trans hd1⟩
            rw [Ht2.out]
            show Value.int .i64 _ = Value.int .i64 _
            rw [HE2.out, i64_xor_nat _ _ (Nat.lt_of_le_of_lt (Nat.and_le_right) (by omega)) (Nat.lt_trans (one8_lt _ hin) (by omega))]
            rfl
          case measure => simp [intOf] <;> omega
        · obtain rfl : k = lb.length := by omega
          go_wp2_with fail
          go_roundw
          case rel =>
            refine ⟨j + 1, by omega, by go_num, ?_, bnext hb hb2, hd0, hd1, Nat.lt_of_lt_of_le hsz hb2.size⟩
            rw [Ht.out, List.take_of_length_le (Nat.le_refl _)]
          case measure => simp [intOf] <;> omega
    · obtain rfl : j = ls.length := by omega
      go_wp2_with fail
      go_ret
      refine ⟨ret_int ?_, hb⟩
      rw [List.take_of_length_le (Nat.le_refl _)]

def nxt16 (s x : Nat) : Nat := ((s * 256) &&& 65535) ^^^ one16 ((s / 256) ^^^ x)
def crc16 (s : Nat) (l : List UInt8) : Nat := l.foldl (fun s x => nxt16 s x.toNat) s
theorem crc16_snoc (s : Nat) (l : List UInt8) (x : UInt8) : crc16 s (l ++ [x]) = nxt16 (crc16 s l) x.toNat := by simp [crc16]
theorem crc16_append (s : Nat) (l m : List UInt8) : crc16 s (l ++ m) = crc16 (crc16 s l) m := by simp [crc16]
theorem nxt16_lt (s x : Nat) (hs : s < 65536) (hx : x < 256) : nxt16 s x < 65536 := by
  have h : (s / 256) ^^^ x < 256 := Nat.xor_lt_two_pow (n := 8) (by omega) (by omega)
  exact Nat.xor_lt_two_pow (n := 16) (Nat.and_lt_two_pow _ (by omega)) (one16_lt _ h)
theorem crc16_lt (s : Nat) (hs : s < 65536) (l : List UInt8) : crc16 s l < 65536 := by
  induction l generalizing s with
  | nil => exact hs
  | cons x l ih => exact ih _ (nxt16_lt _ _ hs (by have := x.toNat_lt; omega))

set_option maxHeartbeats 800000 in
theorem of16_any (ls : List (List UInt8)) (A : Option Addr) (c : Nat) (w : World) (hv : BSS w (.slice A ls.length c) ls) (hlen : ls.length < 4611686018427387904) (hlens : ∀ l ∈ ls, l.length < 4611686018427387904) :
    Calls Tryd.prog 56 #[.agg #[.int .i64 16, .int .i64 32773], .func (.func 57) #[.agg #[.int .i64 16, .int .i64 32773]] #[], .slice A ls.length c] w fun e w' =>
      e = .returned (.int .i64 (crc16 0 ls.flatten)) ∧ Below w.heap.size w w' := by
  obtain ⟨A', c', vs, he, hc, hr, hl, hx⟩ := hv
  obtain ⟨rfl, -, rfl⟩ : A = A' ∧ True ∧ c = c' := by injection he with h1 h2 h3; exact ⟨h1, trivial, h3⟩
  have Hl := Lib.hid hl; clear hl he
  have Hx := Lib.hid hx; clear hx
  have Hr := Lib.hid hr; clear hr
  have Hls := Lib.hid hlens; clear hlens
  go_enter Tryd.func56, Tryd.ntmps56
  go_wp2_with fail
  go_quiet (fail)
  go_wp2_with fail
  go_loopw [7, 19] (fun s i wr => ∃ j : Nat, j ≤ ls.length ∧ i = .int .i64 j ∧ s = .int .i64 (crc16 0 (ls.take j).flatten) ∧ Below w.heap.size w wr ∧ wr.cell? ⟨w.heap.size, 0, none⟩ = some (.int .i64 16) ∧ wr.cell? ⟨w.heap.size, 1, none⟩ = some (.int .i64 32773) ∧ w.heap.size < wr.heap.size) (fun _ i _ => ls.length - (intOf i).toNat)
  case atStart => exact ⟨0, by omega, rfl, by simp [crc16], by repeat (first | exact Below.refl _ _ | assumption | refine below_drewN ?_ _ | refine Below.drew ?_ | refine Below.alloc ?_ (Nat.le_refl _) _ | refine bal ?_ _ | refine bnext ?_ (by assumption)), by go_simp, by go_simp, by simp⟩
  case round =>
    obtain ⟨j, hj, rfl, rfl, hb, hc0, hc1, hsz⟩ := hrel
    by_cases hjj : j < ls.length
    · have hjv : j < vs.length := by have := Hl.out; omega
      obtain ⟨b, o, rfl, hcell⟩ := (Hr.out.below hb).at_ hjv
      obtain ⟨A1, c1, e1, hc1', hr1⟩ := (Hx.out j vs[j] ls[j] (List.getElem?_eq_getElem hjv) (List.getElem?_eq_getElem hjj)).below hb
      rw [e1] at hcell
      have hl1 := Hls.out _ (List.getElem_mem hjj)
      have Ht : Hid (crc16 0 (ls.take (j + 1)).flatten = crc16 (crc16 0 (ls.take j).flatten) ls[j]) := by
        show _ = _
        rw [List.take_succ_eq_append_getElem hjj, List.flatten_append]
        simp only [List.flatten_cons, List.flatten_nil, List.append_nil]
        exact crc16_append _ _ _
      have hlt0 := crc16_lt 0 (by omega) (ls.take j).flatten
      generalize hq : crc16 0 (ls.take j).flatten = q at *
      clear hq e1
      generalize hlb : ls[j] = lb at *
      clear hlb
      have Hr1 := Lib.hid hr1; clear hr1
      obtain ⟨wo, rfl⟩ : ∃ wo : World, wo = wr := ⟨_, rfl⟩
      go_wp2_with fail
      go_loopw [7, 25] (fun s i wr => ∃ k : Nat, k ≤ lb.length ∧ i = .int .i64 k ∧ s = .int .i64 (crc16 q (lb.take k)) ∧ Below wo.heap.size wo wr ∧ wr.cell? ⟨w.heap.size, 0, none⟩ = some (.int .i64 16) ∧ wr.cell? ⟨w.heap.size, 1, none⟩ = some (.int .i64 32773)) (fun _ i _ => lb.length - (intOf i).toNat)
      case atStart => exact ⟨0, by omega, rfl, by simp [crc16], by repeat (first | exact Below.refl _ _ | assumption | refine below_drewN ?_ _ | refine Below.drew ?_ | refine Below.alloc ?_ (Nat.le_refl _) _ | refine bal ?_ _ | refine bnext ?_ (by assumption)), hc0, hc1⟩
      case round =>
        obtain ⟨k, hk, rfl, rfl, hb2, hd0, hd1⟩ := hrel
        by_cases hkk : k < lb.length
        · obtain ⟨b2, o2, rfl, hcell2⟩ := (Hr1.out.below hb2).at_ (j := k) (by rw [bv_length]; exact hkk)
          have e2 := bv_get lb k hkk
          rw [List.getElem?_eq_getElem (by rw [bv_length]; exact hkk)] at e2
          rw [Option.some.inj e2] at hcell2
          clear e2
          have Ht2 : Hid (crc16 q (lb.take (k + 1)) = nxt16 (crc16 q (lb.take k)) lb[k].toNat) := by
            show _ = _
            rw [List.take_succ_eq_append_getElem hkk]; exact crc16_snoc _ _ _
          have hlt2 := crc16_lt q hlt0 (lb.take k)
          have hx0 := lb[k].toNat_lt
          generalize hq2 : crc16 q (lb.take k) = s at *
          clear hq2
          generalize hx2 : lb[k].toNat = x at *
          clear hx2
          have hin : (s / 256) ^^^ x < 256 := Nat.xor_lt_two_pow (n := 8) (by omega) (by omega)
          have E1 : bits .xor .i64 ((s : Int) / 256) (x : Int) = (((s / 256) ^^^ x : Nat) : Int) := i64_xor_nat _ _ (Nat.lt_of_le_of_lt (m := s) (Nat.div_le_self _ _) (by omega)) (by omega)
          have E2 := i64_and_nat (s * 256) 65535 (by omega) (by omega)
          simp only [Int.natCast_mul, Int.cast_ofNat_Int] at E1 E2
          have HE1 := Lib.hid E1; clear E1
          have HE2 := Lib.hid E2; clear E2
          go_wp2_with fail
          rw [HE1.out]
          refine (one16_any _ hin _).mono ?_
          rintro e w1 ⟨rfl, hb3⟩
          go_wp2_with fail
          go_roundw
          case rel =>
            refine ⟨k + 1, by omega, by go_num, ?_, bnext hb2 hb3, (hb3.cell (p := ⟨w.heap.size, 0, none⟩) (Nat.lt_of_lt_of_le hsz hb2.size)).trans hd0, (hb3.cell (p := ⟨w.heap.size, 1, none⟩) (Nat.lt_of_lt_of_le hsz hb2.size)).trans hd1⟩
            rw [Ht2.out]
            show Value.int .i64 _ = Value.int .i64 _
            rw [HE2.out, i64_xor_nat _ _ (Nat.lt_of_le_of_lt (Nat.and_le_right) (by omega)) (Nat.lt_trans (one16_lt _ hin) (by omega))]
            rfl
          case measure => simp [intOf] <;> omega
        · obtain rfl : k = lb.length := by omega
          go_wp2_with fail
          go_roundw
          case rel =>
            refine ⟨j + 1, by omega, by go_num, ?_, bnext hb hb2, hd0, hd1, Nat.lt_of_lt_of_le hsz hb2.size⟩
            rw [Ht.out, List.take_of_length_le (Nat.le_refl _)]
          case measure => simp [intOf] <;> omega
    · obtain rfl : j = ls.length := by omega
      go_wp2_with fail
      go_ret
      refine ⟨ret_int ?_, hb⟩
      rw [List.take_of_length_le (Nat.le_refl _)]

end Go.Proofs.YtgohfbfdhdepnaaDoor.C2

namespace Go.Proofs.YtgohfbfdhdepnaaDoor.C2
open Go.RowKit

set_option maxHeartbeats 400000 in
theorem eight_any (w : World) :
    Calls Tryd.prog 55 #[] w fun e w' => e = .returned (.agg #[.int .i64 8, .int .i64 7]) ∧ Below w.heap.size w w' := by
  go_enter Tryd.func55, Tryd.ntmps55
  go_wp2_with fail
  exact bodyPost_ret (v := .agg #[.int .i64 8, .int .i64 7]) (by simp [results, Tryd.results55, go_sem]) rfl ⟨rfl, by repeat (first | exact Below.refl _ _ | assumption | refine below_drewN ?_ _ | refine Below.drew ?_ | refine Below.alloc ?_ (Nat.le_refl _) _ | refine bal ?_ _ | refine bnext ?_ (by assumption))⟩

set_option maxHeartbeats 400000 in
theorem Sum8_any (ls : List (List UInt8)) (A : Option Addr) (c : Nat) (w : World) (hv : BSS w (.slice A ls.length c) ls) (hlen : ls.length < 4611686018427387904) (hlens : ∀ l ∈ ls, l.length < 4611686018427387904) :
    Calls Tryd.prog 31 #[.slice A ls.length c] w fun e w' =>
      e = .returned (.int .i64 (crc8 0 ls.flatten)) ∧ Below w.heap.size w w' := by
  have Hv := Lib.hid hv; clear hv
  have Hls := Lib.hid hlens; clear hlens
  go_enter Tryd.func31, Tryd.ntmps31
  go_wp2_with fail
  refine (eight_any _).mono ?_
  rintro e w1 ⟨rfl, hb1⟩
  go_wp2_with fail
  refine (eight_any _).mono ?_
  rintro e w2 ⟨rfl, hb2⟩
  go_wp2_with fail
  refine (of8_any ls A c _ ((Hv.out.below hb1).below hb2) hlen Hls.out).mono ?_
  rintro e w3 ⟨rfl, hb3⟩
  go_wp2_with fail
  go_ret
  exact ⟨rfl, bnext (bnext hb1 hb2) hb3⟩

end Go.Proofs.YtgohfbfdhdepnaaDoor.C2
