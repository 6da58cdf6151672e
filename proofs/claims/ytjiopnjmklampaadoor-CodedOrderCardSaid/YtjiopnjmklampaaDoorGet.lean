/-
  coded.Get: the number with whose code bytes begin.
-/
import Derived.Test.YtjiopnjmklampaaDoorPut
namespace Go.Proofs.YtjiopnjmklampaaDoor
open Go.RowKit

/-- How many ones a byte begins with. -/
def onesOf (x : Nat) : Nat := if x < 128 then 0 else if x < 192 then 1 else if x < 224 then 2 else if x < 240 then 3 else if x < 248 then 4 else if x < 252 then 5 else if x < 254 then 6 else if x < 255 then 7 else 8
theorem onesOf_le (x : Nat) : onesOf x ≤ 8 := by unfold onesOf; (repeat' split) <;> omega
theorem ones_iff : ∀ x, x < 256 → ∀ k, k < 8 → k ≤ onesOf x → ((x / 2 ^ (7 - k) % 2 = 1) ↔ k < onesOf x) := by decide +kernel
/-- The bytes behind the first one: what number they make of n, or what is wrong. -/
def cont : Nat → Nat → List Nat → Nat × Nat
  | 0, n, _ => (n, 0)
  | _ + 1, _, [] => (0, 11)
  | k + 1, n, x :: r => if 128 ≤ x ∧ x < 192 then cont k (n * 64 + x % 64) r else (0, 12)
/-- What Get answers: number, size, error. -/
def getR : List Nat → Nat × Nat × Nat
  | [] => (0, 0, 11)
  | x :: r => if onesOf x = 0 then (x, 1, 0) else if onesOf x = 1 ∨ onesOf x = 8 then (0, 0, 12) else
      if (cont (onesOf x - 1) (x % 2 ^ (7 - onesOf x)) r).2 ≠ 0 then (0, 0, (cont (onesOf x - 1) (x % 2 ^ (7 - onesOf x)) r).2)
      else if szN (cont (onesOf x - 1) (x % 2 ^ (7 - onesOf x)) r).1 = onesOf x then ((cont (onesOf x - 1) (x % 2 ^ (7 - onesOf x)) r).1, onesOf x, 0) else (0, 0, 12)

theorem getR_cons (x : Nat) (r : List Nat) : getR (x :: r) = if onesOf x = 0 then (x, 1, 0) else if onesOf x = 1 ∨ onesOf x = 8 then (0, 0, 12) else
      if (cont (onesOf x - 1) (x % 2 ^ (7 - onesOf x)) r).2 ≠ 0 then (0, 0, (cont (onesOf x - 1) (x % 2 ^ (7 - onesOf x)) r).2)
      else if szN (cont (onesOf x - 1) (x % 2 ^ (7 - onesOf x)) r).1 = onesOf x then ((cont (onesOf x - 1) (x % 2 ^ (7 - onesOf x)) r).1, onesOf x, 0) else (0, 0, 12) := rfl
theorem cont_lt : ∀ (k n : Nat) (r : List Nat) (b : Nat), n < b → (cont k n r).2 = 0 → (cont k n r).1 < b * 64 ^ k
  | 0, n, r, b, h, _ => by simpa [cont] using h
  | k + 1, n, [], b, h, e => by simp [cont] at e
  | k + 1, n, x :: r, b, h, e => by
    unfold cont at e ⊢
    split at e
    · rename_i hx
      rw [if_pos hx]
      have := cont_lt k (n * 64 + x % 64) r (b * 64) (by omega) e
      rw [Nat.pow_succ, Nat.mul_comm (64 ^ k) 64, ← Nat.mul_assoc]
      exact this
    · simp at e

theorem ofInt_u8' (a : Nat) (h : a < 256) : (BitVec.ofInt 8 (a : Int)).toNat = a := by
  rw [BitVec.toNat_ofInt]; omega
theorem u8_and_nat (a b : Nat) (ha : a < 256) (hb : b < 256) : bits .and .u8 (a : Int) (b : Int) = ((a &&& b : Nat) : Int) := by
  have hx : a &&& b < 2 ^ 8 := Nat.and_lt_two_pow _ (by omega)
  show IntKind.u8.wrap ((BitVec.ofInt 8 (a : Int) &&& BitVec.ofInt 8 (b : Int)).toNat : Int) = _
  rw [BitVec.toNat_and, ofInt_u8' a ha, ofInt_u8' b hb]
  simp only [IntKind.wrap, IntKind.bits, IntKind.signed]
  simp
  omega
theorem bit_u8 (x j : Nat) (hx : x < 256) : bits .and .u8 ((x : Int) / 2 ^ j) 1 = ((x / 2 ^ j % 2 : Nat) : Int) := by
  have := u8_and_nat (x / 2 ^ j) 1 (Nat.lt_of_le_of_lt (Nat.div_le_self _ _) hx) (by omega)
  rw [Nat.and_one_is_mod] at this
  rw [← this]
  simp

theorem mark_iff : ∀ y, y < 256 → (y &&& 192 = 128 ↔ 128 ≤ y ∧ y < 192) := by decide +kernel
theorem mask_eq (k : Nat) (h1 : 2 ≤ k) (h2 : k ≤ 7) : wrap64 (wrap64 ((2 : Int) ^ (7 - k)) - 1) = ((2 ^ (7 - k) - 1 : Nat) : Int) := by
  have hk : k = 2 ∨ k = 3 ∨ k = 4 ∨ k = 5 ∨ k = 6 ∨ k = 7 := by omega
  rcases hk with rfl | rfl | rfl | rfl | rfl | rfl <;> decide +kernel
theorem drop_cons (r : List Nat) (j : Nat) (h : j < r.length) : r.drop j = r[j] :: r.drop (j + 1) := List.drop_eq_getElem_cons h

theorem cont_nil (k n : Nat) : cont (k + 1) n [] = (0, 11) := rfl
theorem cont_no (k n x : Nat) (r : List Nat) (h : ¬ (128 ≤ x ∧ x < 192)) : cont (k + 1) n (x :: r) = (0, 12) := if_neg h
theorem cont_yes (k n x : Nat) (r : List Nat) (h : 128 ≤ x ∧ x < 192) : cont (k + 1) n (x :: r) = cont k (n * 64 + x % 64) r := if_pos h
theorem pow64_le (k j : Nat) (h1 : 2 ≤ k) (h2 : k ≤ 7) (h3 : j ≤ k) (h4 : 1 ≤ j) : 2 ^ (7 - k) * 64 ^ (j - 1) ≤ 68719476736 := by
  have h : (2 : Nat) ^ (7 - k) * 64 ^ (j - 1) = 2 ^ (7 - k + 6 * (j - 1)) := by rw [show (64 : Nat) = 2 ^ 6 from rfl, ← Nat.pow_mul, ← Nat.pow_add]
  rw [h]
  exact Nat.le_trans (Nat.pow_le_pow_right (by omega) (show 7 - k + 6 * (j - 1) ≤ 36 by omega)) (by decide)

set_option maxHeartbeats 1000000 in
theorem get_any (l : List Nat) (hl8 : ∀ x ∈ l, x < 256) (A : Option Addr) (c : Nat) (w : World) (hr : Rd w A (nv8 l)) (hlen : l.length < 9223372036854775807) (ht : TabAt w) :
    Calls Tryd.prog 12 #[.slice A l.length c] w fun e w' => e = .returned (.tuple #[.int .i64 ((getR l).1 : Nat), .int .i64 ((getR l).2.1 : Nat), .int .i64 ((getR l).2.2 : Nat)]) ∧ Below w.heap.size w w' := by
  have Hr := Lib.hid hr; clear hr
  have Ht := Lib.hid ht; clear ht
  have H8 := Lib.hid hl8; clear hl8
  cases l with
  | nil =>
    go_enter Tryd.func12, Tryd.ntmps12
    go_wp2_with fail
    go_step3
    go_wp2_with fail
    try rw [Exit.noGoto_ret]
    go_ret3
    exact ⟨rfl, Below.refl _ _⟩
  | cons x r =>
    have hx : x < 256 := H8.out x (List.mem_cons_self ..)
    obtain ⟨b, o, rfl, hc0⟩ := Hr.out 0 (.int .u8 x) rfl
    rw [Nat.add_zero] at hc0
    obtain ⟨N, hN⟩ : ∃ N, (x :: r).length = N := ⟨_, rfl⟩
    have hN0 : 0 < N := by rw [← hN]; simp
    rw [hN] at hlen
    rw [hN]
    have HN : Hid (N = r.length + 1) := hN.symm
    clear hN
    have hnz : ((N : Int) == 0) = false := by rw [beq_eq_false_iff_ne]; omega
    have Ho := ones_iff x hx
    have Ho := Lib.hid Ho
    have ho8 := onesOf_le x
    obtain ⟨s, hs⟩ : ∃ s, onesOf x = s := ⟨_, rfl⟩
    rw [hs] at ho8 Ho
    have Hs := Lib.hid hs
    clear hs
    go_enter Tryd.func12, Tryd.ntmps12
    go_wp2_with fail
    go_step3
    go_wp2_with fail
    go_loopw [3] (fun i wr => ∃ k : Nat, k ≤ s ∧ i = .int .i64 k ∧ w = wr) (fun i _ => 9 - (intOf i).toNat)
    case atStart => exact ⟨0, by omega, rfl, rfl⟩
    case round =>
      obtain ⟨k, hk, rfl, rfl⟩ := hrel
      by_cases hkk : k < s
      · have hbit := (Ho.out k (by omega) hk).2 hkk
        have hk7 : (k : Int) ≤ 7 := by omega
        have e1 : (7 - (k : Int)) = ((7 - k : Nat) : Int) := by omega
        have hq : (bits .and .u8 ((x : Int) / 2 ^ (7 - k)) 1 == 1) = true := by rw [bit_u8 x _ hx, hbit]; rfl
        go_wp2_with fail
        go_roundw
        case rel => exact ⟨k + 1, by omega, by go_num, trivial⟩
        case measure => simp [intOf] <;> omega
      · obtain rfl : k = s := by omega
        rcases Nat.lt_or_ge 7 k with h8 | h8
        · have hg : getR (x :: r) = (0, 0, 12) := by
            rw [getR_cons, Hs.out, if_neg (by omega), if_pos (by omega)]
          have hk7 : ¬ (k : Int) ≤ 7 := by omega
          have k0 : ((k : Int) == 0) = false := by rw [beq_eq_false_iff_ne]; omega
          have k1 : ((k : Int) == 1) = false := by rw [beq_eq_false_iff_ne]; omega
          have k7 : (7 : Int) < k := by omega
          have Hg := Lib.hid hg
          clear hg
          go_wp2_with fail
          try rw [Exit.noGoto_ret]
          go_ret3
          exact ⟨by rw [Hg.out]; rfl, Below.refl _ _⟩
        · have hbit : x / 2 ^ (7 - k) % 2 = 0 := by
            have h1 : ¬ (x / 2 ^ (7 - k) % 2 = 1) := fun h => absurd ((Ho.out k (by omega) (Nat.le_refl _)).1 h) (by omega)
            omega
          have hk7 : (k : Int) ≤ 7 := by omega
          have e1 : (7 - (k : Int)) = ((7 - k : Nat) : Int) := by omega
          have hq : (bits .and .u8 ((x : Int) / 2 ^ (7 - k)) 1 == 1) = false := by rw [bit_u8 x _ hx, hbit]; rfl
          rcases Nat.eq_zero_or_pos k with hk0 | hk0
          · have k0 : ((k : Int) == 0) = true := by rw [beq_iff_eq]; omega
            have Hg : Hid (getR (x :: r) = (x, 1, 0)) := by
              show _ = _
              rw [getR_cons, Hs.out, if_pos hk0]
            clear hk0
            go_wp2_with fail
            try rw [Exit.noGoto_ret]
            go_ret3
            exact ⟨by rw [Hg.out]; rfl, Below.refl _ _⟩
          · have k0 : ((k : Int) == 0) = false := by rw [beq_eq_false_iff_ne]; omega
            by_cases hk1 : k = 1
            · have k1 : ((k : Int) == 1) = true := by rw [beq_iff_eq]; omega
              have Hg : Hid (getR (x :: r) = (0, 0, 12)) := by
                show _ = _
                rw [getR_cons, Hs.out, if_neg (by omega), if_pos (.inl hk1)]
              clear hk1
              go_wp2_with fail
              try rw [Exit.noGoto_ret]
              go_ret3
              exact ⟨by rw [Hg.out]; rfl, Below.refl _ _⟩
            · have k1 : ((k : Int) == 1) = false := by rw [beq_eq_false_iff_ne]; omega
              have k7 : ¬ (7 : Int) < k := by omega
              obtain ⟨n0, hn0⟩ : ∃ n, x % 2 ^ (7 - k) = n := ⟨_, rfl⟩
              obtain ⟨R, hR⟩ : ∃ R, cont (k - 1) n0 r = R := ⟨_, rfl⟩
              have Hg : Hid (getR (x :: r) = if R.2 ≠ 0 then (0, 0, R.2) else if szN R.1 = k then (R.1, k, 0) else (0, 0, 12)) := by
                show _ = _
                rw [getR_cons, Hs.out, if_neg (by omega), if_neg (by omega), hn0, hR]
              have hn0' : n0 < 2 ^ (7 - k) := by rw [← hn0]; exact Nat.mod_lt _ (Nat.two_pow_pos _)
              have HR := Lib.hid hR
              clear hR
              go_wp2_with fail
              go_quiet (fail)
              have E0 : bits .and .i64 (x : Int) (wrap64 (wrap64 ((2 : Int) ^ (7 - k)) - 1)) = (n0 : Int) := by
                rw [mask_eq k (by omega) (by omega), i64_and_nat x _ (by omega) (by have : 2 ^ (7 - k) ≤ 2 ^ 7 := Nat.pow_le_pow_right (by omega) (by omega); omega), Nat.and_two_pow_sub_one_eq_mod, hn0]
              rw [E0]
              clear E0
              generalize wrap64 (wrap64 ((2 : Int) ^ (7 - k)) - 1) = z1
              generalize wrap64 ((2 : Int) ^ (7 - k)) = z2
              clear hn0
              go_wp2_with fail
              go_step3
              go_wp2_with fail
              go_loopw [2, 4, 5] (fun nv ev iv wr2 => ∃ j m : Nat, 1 ≤ j ∧ j ≤ k ∧ iv = .int .i64 j ∧ ev = .int .i64 0 ∧ nv = .int .i64 m ∧ Hid (cont (k - j) m (r.drop (j - 1)) = R) ∧ Hid (m < 2 ^ (7 - k) * 64 ^ (j - 1)) ∧ Hid (Below w.heap.size w wr2)) (fun _ _ iv _ => k - (intOf iv).toNat)
              case atStart => exact ⟨1, n0, by omega, by omega, rfl, rfl, rfl, HR.out, by simpa [Hid] using hn0', by show Below _ _ _; repeat (first | exact Below.refl _ _ | assumption | refine below_drewN ?_ _ | refine Below.drew ?_ | refine Below.alloc ?_ (Nat.le_refl _) _ | refine bal ?_ _ | refine bnext ?_ (by assumption))⟩
              case round =>
                obtain ⟨j, m, hj1, hj, rfl, rfl, rfl, Hcn, Hm, Hb⟩ := hrel
                have hm := Nat.lt_of_lt_of_le Hm.out (pow64_le k j (by omega) (by omega) hj hj1)
                by_cases hjj : j < k
                · obtain ⟨q, hq2⟩ : ∃ q, k - j = q + 1 := ⟨k - j - 1, by omega⟩
                  by_cases hjN : j < N
                  · have hjr : j - 1 < r.length := by have := HN.out; omega
                    obtain ⟨b', o', hbo, hcj⟩ := (Hr.out.below Hb.out) j (.int .u8 r[j - 1]) (by
                      obtain ⟨j', rfl⟩ : ∃ j', j = j' + 1 := ⟨j - 1, by omega⟩
                      simp only [nv8, List.map_cons, List.getElem?_cons_succ, List.getElem?_map]
                      rw [List.getElem?_eq_getElem (by simpa using hjr)]; simp)
                    injection hbo with hbo; injection hbo with hb1 hb2; subst hb1; subst hb2
                    have hy : r[j - 1] < 256 := H8.out _ (List.mem_cons_of_mem _ (List.getElem_mem hjr))
                    have hcn := Hcn.out
                    rw [hq2, drop_cons r (j - 1) hjr] at hcn
                    generalize r[j - 1] = y at *
                    by_cases hmk : 128 ≤ y ∧ y < 192
                    · have hq : (bits .and .u8 (y : Int) 192 != 128) = false := by
                        have h := u8_and_nat y 192 hy (by omega)
                        rw [(mark_iff y hy).2 hmk] at h
                        rw [show (192 : Int) = ((192 : Nat) : Int) from rfl, h]; rfl
                      rw [cont_yes _ _ _ _ hmk] at hcn
                      have HC := Lib.hid hcn
                      have E6 : bits .and .u8 (y : Int) 63 = ((y % 64 : Nat) : Int) := by
                        rw [show (63 : Int) = ((63 : Nat) : Int) from rfl, u8_and_nat y 63 hy (by omega), show y &&& 63 = y % 64 from Nat.and_two_pow_sub_one_eq_mod y 6]
                      have E7 : bits .or .i64 ((m : Int) * 64) ((y : Int) % 64) = ((m * 64 + y % 64 : Nat) : Int) := by
                        have h := i64_or_nat (m * 64) (y % 64) (by omega) (by omega)
                        rw [show m * 64 = m * 2 ^ 6 from rfl, or_add m 6 (y % 64) (by omega)] at h
                        simpa using h
                      have HE7 := Lib.hid E7
                      clear hcn hmk E7
                      go_wp2_with fail
                      go_roundw
                      case rel =>
                        refine ⟨j + 1, m * 64 + y % 64, by omega, by omega, by go_num, rfl, by rw [HE7.out], ?_, ?_, Hb⟩
                        · show _ = _
                          rw [show k - (j + 1) = q from by omega, show j + 1 - 1 = j - 1 + 1 from by omega]
                          exact HC.out
                        · show _ < _
                          have h := Hm.out
                          have h2 : 2 ^ (7 - k) * 64 ^ (j + 1 - 1) = 2 ^ (7 - k) * 64 ^ (j - 1) * 64 := by
                            rw [show j + 1 - 1 = j - 1 + 1 from by omega, Nat.pow_succ, Nat.mul_assoc]
                          rw [h2]
                          omega
                      case measure => simp [intOf] <;> omega
                    · have hq : (bits .and .u8 (y : Int) 192 != 128) = true := by
                        have h := u8_and_nat y 192 hy (by omega)
                        have h2 : y &&& 192 ≠ 128 := fun e => hmk ((mark_iff y hy).1 e)
                        rw [show (192 : Int) = ((192 : Nat) : Int) from rfl, h, bne_iff_ne]; omega
                      rw [cont_no _ _ _ _ hmk] at hcn
                      have HC : Hid (getR (x :: r) = (0, 0, 12)) := by
                        show _ = _
                        rw [Hg.out, ← hcn]; rfl
                      clear hcn hmk
                      go_wp2_with fail
                      try rw [Exit.noGoto_ret]
                      go_ret3
                      exact ⟨by rw [HC.out]; rfl, Hb.out⟩
                  · have hcn := Hcn.out
                    rw [hq2, List.drop_eq_nil_of_le (by have := HN.out; omega), cont_nil] at hcn
                    have HC : Hid (getR (x :: r) = (0, 0, 11)) := by
                      show _ = _
                      rw [Hg.out, ← hcn]; rfl
                    clear hcn
                    go_wp2_with fail
                    try rw [Exit.noGoto_ret]
                    go_ret3
                    exact ⟨by rw [HC.out]; rfl, Hb.out⟩
                · obtain rfl : j = k := by omega
                  have hcn := Hcn.out
                  rw [Nat.sub_self] at hcn
                  have HC : Hid (getR (x :: r) = if szN m = j then (m, j, 0) else (0, 0, 12)) := by
                    show _ = _
                    rw [Hg.out, ← hcn]; rfl
                  clear hcn
                  go_wp2_with fail
                  refine (len_ok m hm _ (Ht.out.below Hb.out)).mono ?_
                  rintro e w3 ⟨rfl, rfl⟩
                  by_cases hz : szN m = j
                  · have hz' : ((szN m : Int) != (j : Int)) = false := by rw [bne_eq_false_iff_eq]; omega
                    have HC2 : Hid (getR (x :: r) = (m, j, 0)) := HC.out.trans (if_pos hz)
                    clear hz
                    go_wp2_with fail
                    try rw [Exit.noGoto_ret]
                    go_ret3
                    exact ⟨by rw [HC2.out]; rfl, Hb.out⟩
                  · have hz' : ((szN m : Int) != (j : Int)) = true := by rw [bne_iff_ne]; omega
                    have HC2 : Hid (getR (x :: r) = (0, 0, 12)) := HC.out.trans (if_neg hz)
                    clear hz
                    go_wp2_with fail
                    try rw [Exit.noGoto_ret]
                    go_ret3
                    exact ⟨by rw [HC2.out]; rfl, Hb.out⟩
end Go.Proofs.YtjiopnjmklampaaDoor
