/-
  jetsamref01.Put: the walk.
-/
import Derived.Test.YtgohfbfdhdepnaaDoorFrL01
import Derived.Test.YtgohfbfdhdepnaaDoorNum01
namespace Go.Proofs.YtgohfbfdhdepnaaDoor
open Go.RowKit

/-- The lowest bits of a number. -/
def loU (k : Int) (n : Nat) : Nat := (k % 2 ^ n).toNat
theorem loU_eq (k : Int) (n : Nat) : ((loU k n : Nat) : Int) = k % 2 ^ n := by
  have : 0 ≤ k % 2 ^ n := Int.emod_nonneg _ (Int.ne_of_gt (Int.pow_pos (by omega)))
  unfold loU; omega
theorem loU_lt (k : Int) (n : Nat) : loU k n < 2 ^ n := by
  have h1 := loU_eq k n
  have h2 : k % 2 ^ n < 2 ^ n := Int.emod_lt_of_pos _ (Int.pow_pos (by omega))
  have e : ((2 : Int) ^ n) = ((2 ^ n : Nat) : Int) := by simp
  rw [e] at h1 h2
  omega
theorem lo_bit (k : Int) (n i : Nat) (h : i < n) : (k / 2 ^ i) % 2 = ((loU k n / 2 ^ i % 2 : Nat) : Int) := by
  have h1 := loU_eq k n
  obtain ⟨d, hd⟩ : ∃ d, n = i + (d + 1) := ⟨n - i - 1, by omega⟩
  have hk := Int.mul_ediv_add_emod k (2 ^ n)
  rw [← h1] at hk
  have e : ((2 : Int) ^ n) = 2 ^ i * (2 * 2 ^ d) := by rw [hd, Int.pow_add, Int.pow_succ, Int.mul_comm (2 ^ d) 2]
  rw [e] at hk
  generalize loU k n = U at *
  generalize k / (2 ^ i * (2 * 2 ^ d)) = q at hk
  have e3 : ((U : Int) / 2 ^ i) = ((U / 2 ^ i : Nat) : Int) := by simp
  have e4 : k / 2 ^ i = (U : Int) / 2 ^ i + (2 * 2 ^ d) * q := by
    rw [← hk, Int.mul_assoc, Int.add_comm, Int.add_mul_ediv_left _ _ (Int.ne_of_gt (Int.pow_pos (by omega)))]
  rw [e4, e3, Int.mul_assoc]
  generalize (2 : Int) ^ d * q = z
  generalize U / 2 ^ i = y
  omega
theorem numZ_vb_u (U n : Nat) (h : U < 2 ^ n) : numZ (vb U n) false n = (U : Int) := by
  unfold numZ
  rw [if_neg (fun h => by cases h.1), Int.sub_zero]
  have hh := vb_part U n 0 n (by omega)
  rw [List.drop_zero, List.take_of_length_le (by rw [vb_length]; exact Nat.le_refl _), show n - 0 - n = 0 from by omega, Nat.pow_zero, Nat.div_one, Nat.mod_eq_of_lt h] at hh
  rw [hh]
theorem numZ_vb_s (U n : Nat) (h : U < 2 ^ n) : numZ (vb U n) true n = if 0 < n ∧ U / 2 ^ (n - 1) = 1 then (U : Int) - 2 ^ n else U := by
  have h1 := numZ_s (fun i => (vb U n).getD i 0) (fun i => getD_lt (vb_lt U n) i) (vb U n) 0 (fun i _ => by rw [Nat.zero_add])
  rw [vb_length] at h1
  rw [h1]
  unfold sgS
  have h2 := numZ_vb_u U n h
  unfold numZ at h2
  rw [if_neg (fun h => by cases h.1), Int.sub_zero] at h2
  rw [Int.ofNat_inj.1 h2]
/-- What Put tells. -/
def rpE (n k : Int) (s : Bool) : Int := if n < 0 ∨ 48 < n then 1 else if numZ (vb (loU k n.toNat) n.toNat) s n.toNat = k then 0 else 10
def rpB (bs : List Nat) (n k : Int) (s : Bool) : List Nat := if rpE n k s = 0 then bs ++ vb (loU k n.toNat) n.toNat else bs
theorem rpE_u (n k : Int) : rpE n k false = ptE n k := by
  unfold rpE ptE
  split
  · rfl
  · rw [numZ_vb_u _ _ (loU_lt k _), loU_eq]
    have hp : (0 : Int) < 2 ^ n.toNat := Int.pow_pos (by omega)
    by_cases h : k < 0 ∨ 2 ^ n.toNat ≤ k
    · rw [if_pos h, if_neg]
      intro e
      have h1 : 0 ≤ k % 2 ^ n.toNat := Int.emod_nonneg _ (Int.ne_of_gt hp)
      have h2 : k % 2 ^ n.toNat < 2 ^ n.toNat := Int.emod_lt_of_pos _ hp
      omega
    · rw [if_neg h, if_pos]
      exact Int.emod_eq_of_lt (by omega) (by omega)
theorem rpB_u (bs : List Nat) (n k : Int) : rpB bs n k false = ptB bs n k := by
  unfold rpB ptB
  rw [rpE_u]
  by_cases h : ptE n k = 0
  · rw [if_pos h, if_pos h]
    have h2 := h
    unfold ptE at h2
    split at h2
    · cases h2
    · split at h2
      · cases h2
      · have e : loU k n.toNat = k.toNat := by
          unfold loU
          rw [Int.emod_eq_of_lt (by omega) (by omega)]
        rw [e]
  · rw [if_neg h, if_neg h]
theorem sgn_core (m : Nat) (k : Int) : (if 0 < m + 1 ∧ loU k (m + 1) / 2 ^ (m + 1 - 1) = 1 then (loU k (m + 1) : Int) - 2 ^ (m + 1) else (loU k (m + 1) : Int)) = k ↔ ¬ (k < -2 ^ m ∨ 2 ^ m ≤ k) := by
  have ek : ((2 : Int) ^ m) = ((2 ^ m : Nat) : Int) := by simp
  have eq : ((2 : Int) ^ (m + 1)) = 2 * ((2 ^ m : Nat) : Int) := by rw [Int.pow_succ, ek, Int.mul_comm]
  have h1 := loU_eq k (m + 1)
  have hK : 0 < (2 : Nat) ^ m := Nat.pow_pos (by omega)
  rw [Nat.add_sub_cancel]
  rw [eq] at h1 ⊢
  rw [ek]
  generalize loU k (m + 1) = U at *
  clear ek eq
  generalize (2 : Nat) ^ m = K at *
  have hz0 : 0 ≤ k % (2 * (K : Int)) := Int.emod_nonneg _ (by omega)
  have hz1 : k % (2 * (K : Int)) < 2 * (K : Int) := Int.emod_lt_of_pos _ (by omega)
  have hd := Int.mul_ediv_add_emod k (2 * (K : Int))
  rw [← h1] at hz0 hz1
  have hU : U < 2 * K := by omega
  by_cases hc : U / K = 1
  · rw [if_pos ⟨by omega, hc⟩]
    have hUK : K ≤ U := by
      rcases Nat.lt_or_ge U K with h | h
      · rw [Nat.div_eq_of_lt h] at hc; cases hc
      · exact h
    constructor
    · intro e; omega
    · intro hr
      rcases (show k < 0 ∨ 0 ≤ k by omega) with hk | hk
      · have e : k % (2 * (K : Int)) = k + 2 * K := by
          rw [← Int.add_emod_right]
          exact Int.emod_eq_of_lt (by omega) (by omega)
        omega
      · have e : k % (2 * (K : Int)) = k := Int.emod_eq_of_lt hk (by omega)
        omega
  · rw [if_neg (fun h => hc h.2)]
    have hUK : U < K := by
      rcases Nat.lt_or_ge U K with h | h
      · exact h
      · exact absurd (Nat.div_eq_of_lt_le (by omega) (by omega)) hc
    constructor
    · intro e; omega
    · intro hr
      rcases (show k < 0 ∨ 0 ≤ k by omega) with hk | hk
      · have e : k % (2 * (K : Int)) = k + 2 * K := by
          rw [← Int.add_emod_right]
          exact Int.emod_eq_of_lt (by omega) (by omega)
        omega
      · have e : k % (2 * (K : Int)) = k := Int.emod_eq_of_lt hk (by omega)
        omega
theorem rpE_s (n k : Int) : rpE n k true = swE n k := by
  unfold rpE swE
  split
  · rfl
  · rename_i hn
    rw [numZ_vb_s _ _ (loU_lt k _)]
    obtain ⟨j, rfl⟩ : ∃ j : Nat, n = j := ⟨n.toNat, by omega⟩
    rw [Int.toNat_natCast]
    cases j with
    | zero =>
      have e0 : loU k 0 = 0 := by unfold loU; simp [Int.emod_one]
      by_cases h : k = 0
      · subst h; simp [e0]
      · have h' : ¬ (0 : Int) = k := fun e => h e.symm
        simp [e0, h, h']
    | succ m =>
      by_cases h : k < -2 ^ m ∨ 2 ^ m ≤ k
      · rw [if_neg (fun e => (sgn_core m k).1 e h), if_pos (.inr ⟨by omega, by simpa using h⟩)]
      · rw [if_pos ((sgn_core m k).2 h), if_neg]
        rintro (⟨h1, -⟩ | ⟨-, h1⟩)
        · omega
        · exact h (by simpa using h1)
theorem rpB_s (bs : List Nat) (n k : Int) : rpB bs n k true = swB bs n k := by
  unfold rpB swB
  rw [rpE_s]
  rfl
theorem iv8_one (l : List Nat) : ∀ u ∈ iv8 l, u.oneCell' = true := by
  intro u hu
  obtain ⟨x, -, rfl⟩ := List.mem_map.1 hu
  rfl
theorem vb_take_succ (U n j : Nat) (h : j < n) : (vb U n).take (j + 1) = (vb U n).take j ++ [U / 2 ^ (n - 1 - j) % 2] := by
  rw [List.take_succ_eq_append_getElem (by rw [vb_length]; exact h)]
  simp [vb]

def LPost (v : Value) (E : Int) (bs' : List Nat) (B : Nat) (w : World) (e : Ending) (w' : World) : Prop :=
  ∃ v', e = .returned (.tuple #[v', .int .i64 E]) ∧ w'.ownsRow B 3 1 v' bs'.length (iv8 bs') ∧ FrL v v' w w'
set_option maxRecDepth 100000 in
set_option maxHeartbeats 2000000 in
theorem RPut_any (v : Value) (bs : List Nat) (n k : Int) (s : Bool) (B : Nat) (w : World) (hown : w.ownsRow B 3 1 v bs.length (iv8 bs)) (hB : B ≤ w.heap.size) (hlen : bs.length ≤ 1000000000000) (hk1 : -9223372036854775808 ≤ k) (hk2 : k ≤ 9223372036854775807) :
    Calls Tryd.prog 38 #[v, .int .i64 n, .int .i64 k, .bool s] w (LPost v (rpE n k s) (rpB bs n k s) B w) := by
  have Hown := Lib.hid hown
  obtain ⟨A, c, rfl, hc, -, -, hnil⟩ := own_rd4 hown
  clear hown
  by_cases hn : n < 0 ∨ 48 < n
  · have hE : rpE n k s = 1 := by rw [rpE, if_pos hn]
    rw [rpB, hE, if_neg (by decide)]
    clear hE
    by_cases h1 : n < 0
    · clear hn
      go_enter Tryd.func38, Tryd.ntmps38
      go_wp2_with fail
      go_ret2
      exact ⟨_, rfl, Hown.out, FrL.refl _ _⟩
    · have h2 : n > 48 := by omega
      clear hn
      go_enter Tryd.func38, Tryd.ntmps38
      go_wp2_with fail
      go_ret2
      exact ⟨_, rfl, Hown.out, FrL.refl _ _⟩
  obtain ⟨q, rfl⟩ : ∃ q : Nat, n = q := ⟨n.toNat, by omega⟩
  have hE : rpE q k s = if numZ (vb (loU k q) q) s q = k then 0 else 10 := by rw [rpE, if_neg hn, Int.toNat_natCast]
  have hBt : rpB bs q k s = if numZ (vb (loU k q) q) s q = k then bs ++ vb (loU k q) q else bs := by
    rw [rpB, hE, Int.toNat_natCast]
    by_cases h : numZ (vb (loU k q) q) s q = k
    · rw [if_pos h, if_pos h, if_pos rfl]
    · rw [if_neg h, if_neg h, if_neg (by decide)]
  have HY : Hid (numZ (vb (loU k q) q) s q = k → rpE q k s = 0 ∧ rpB bs q k s = bs ++ vb (loU k q) q) := fun h => by rw [hE, hBt, if_pos h, if_pos h]; exact ⟨rfl, rfl⟩
  have HNo : Hid (numZ (vb (loU k q) q) s q ≠ k → rpE q k s = 10 ∧ rpB bs q k s = bs) := fun h => by rw [hE, hBt, if_neg h, if_neg h]; exact ⟨rfl, rfl⟩
  clear hE hBt
  generalize rpE q k s = E at *
  generalize rpB bs q k s = bs' at *
  have hq1 : ¬ (q : Int) < 0 := by omega
  have hq2 : ¬ (q : Int) > 48 := by omega
  have hq48 : q ≤ 48 := by omega
  clear hn
  have Hbit := Lib.hid (fun i h => lo_bit k q i h)
  generalize loU k q = U at *
  have HN := Lib.hid (fun A c W h => Number_any (vb U q) s (vb_lt U q) (by rw [vb_length]; exact hq48) A c W h)
  rw [vb_length] at HN
  have Hsucc := Lib.hid (fun j h => vb_take_succ U q j h)
  have Hful : Hid ((vb U q).take q = vb U q) := by show _ = _; exact List.take_of_length_le (by rw [vb_length]; exact Nat.le_refl _)
  have Hln := Lib.hid (vb_length U q)
  have Hnil := Lib.hid hnil
  clear hnil
  generalize numZ (vb U q) s q = Z at *
  go_enter Tryd.func38, Tryd.ntmps38
  go_wp2_with fail
  go_loopw [10, 11] (fun ov iv wr => ∃ j : Nat, j ≤ q ∧ iv = .int .i64 ((q : Int) - 1 - j) ∧ Hid (wr.ownsRow w.heap.size 3 1 ov j (iv8 ((vb U q).take j))) ∧ Hid (Below w.heap.size w wr)) (fun _ iv _ => (intOf iv + 1).toNat)
  case atStart => exact ⟨0, Nat.zero_le _, by simp, World.ownsRow_nil w w.heap.size _ 1, Below.refl _ _⟩
  case round =>
    obtain ⟨j, hj, rfl, Ho, Hb⟩ := hrel
    by_cases hjq : j < q
    · obtain ⟨r, hr⟩ : ∃ r, q - 1 - j = r := ⟨_, rfl⟩
      have hr1 : ((q : Int) - 1 - j) = (r : Int) := by omega
      have Hr : Hid (r + j + 1 = q) := by show _ = _; omega
      have Hs : Hid (iv8 ((vb U q).take (j + 1)) = iv8 ((vb U q).take j) ++ [.int .i64 (U / 2 ^ r % 2 : Nat)]) := by
        show _ = _
        rw [Hsucc.out j hjq, iv8_append, hr]; rfl
      have hb1 := Hbit.out r (by omega)
      have ha := i64_low (k / 2 ^ r) 1 (by omega)
      rw [show ((2 : Int) ^ 1) = 2 from rfl, hb1, show ((2 ^ 1 - 1 : Nat) : Int) = 1 from rfl] at ha
      generalize U / 2 ^ r % 2 = x at *
      rw [hr1]
      clear hb1 hr hr1
      have hbs := Hb.out.size
      have hmin : min r 64 = r := Nat.min_eq_left (by have := Hr.out; omega)
      have hr0 : (0 : Int) ≤ r := by omega
      have hwr : IntKind.i64.wrap ((r : Int) - 1) = (r : Int) - 1 := by rw [IntKind.wrap_i64]; have := Hr.out; omega
      have hj48 : j ≤ 48 := by omega
      go_wp2_with (at_builtin; refine app1 (w0 := w) rfl _ _ 65 rfl Tryd.underlying65 info_int1 rfl (by decide) rfl Ho.out (Nat.le_refl _) hbs Hb.out rfl rfl (one_int _ _) (by omega) (by unfold maxLen; omega) ?_; intro v1 w6 own1 hb6 hs6; have Hown1 := Lib.hid own1; have Hb6 := Lib.hid hb6; clear own1 hb6)
      go_roundw
      case rel => exact ⟨j + 1, by omega, by have := Hr.out; first | (congr 1; omega) | (simp; omega), by rw [Hs.out]; exact Hown1.out, Hb6.out⟩
      case measure => simp [intOf] <;> omega
    · obtain rfl : j = q := by omega
      rw [Hful.out] at Ho
      obtain ⟨A2, c2, rfl, hc2, -, hr2, hnil2⟩ := own_rd4 Ho.out
      have HN2 := Lib.hid (HN.out A2 c2 wr hr2)
      have Hr2 := Lib.hid hr2
      have Hn2 := Lib.hid (fun h => (hnil2 h).2)
      have Hov := Lib.hid (ownsRow_below Hown.out Hb.out)
      have hBr : B ≤ wr.heap.size := Nat.le_trans hB Hb.out.size
      have hm1 : ((j : Int) - 1 - j) = -1 := by omega
      rw [hm1]
      clear hr2 hnil2 Ho HN Hbit Hsucc hm1 hjq hj
      by_cases hZ : Z = k
      · have hzk : (Z != k) = false := by rw [hZ]; simp
        obtain ⟨rfl, rfl⟩ := HY.out hZ
        clear hZ HY HNo
        go_wp2_with fail
        refine HN2.out.mono ?_
        rintro e w2 ⟨rfl, rfl⟩
        go_wp2_with (at_builtin; refine appNg (n := bs.length) (m := j) (bytes := 8) rfl _ _ 65 rfl Tryd.underlying65 info_int1 rfl rfl Hov.out hBr rfl Hr2.out (by rw [iv8_length]; exact Hln.out) Hn2.out (iv8_one _) (by omega) (by unfold maxLen; omega) ?_; intro v3 w3 own3 fr3; have Hown3 := Lib.hid own3; have HF3 := Lib.hid fr3; clear own3 fr3)
        go_ret2
        exact ⟨v3, rfl, by rw [List.length_append, Hln.out, iv8_append]; exact Hown3.out, (FrL.of Hb.out).trans HF3.out⟩
      · have hzk : (Z != k) = true := by rw [bne_iff_ne]; exact hZ
        obtain ⟨rfl, rfl⟩ : E = 10 ∧ bs = bs' := ⟨(HNo.out hZ).1, (HNo.out hZ).2.symm⟩
        clear hZ HY HNo
        have HF := Lib.hid (FrL.of (v := .slice A bs.length c) Hb.out)
        go_wp2_with fail
        refine HN2.out.mono ?_
        rintro e w2 ⟨rfl, rfl⟩
        go_wp2_with fail
        go_ret2
        exact ⟨_, rfl, Hov.out, HF.out⟩
end Go.Proofs.YtgohfbfdhdepnaaDoor
