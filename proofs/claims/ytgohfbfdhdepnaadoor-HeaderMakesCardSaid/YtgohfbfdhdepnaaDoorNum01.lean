/-
  The Writer's further facts, the reference's bits and numbers.
-/
import Derived.Test.YtgohfbfdhdepnaaDoorWr01
namespace Go.Proofs.YtgohfbfdhdepnaaDoor
open Go.RowKit


def zb (n : Nat) : List Nat := List.replicate n 0
theorem zb_length (n : Nat) : (zb n).length = n := by simp [zb]
theorem vb_zero (n : Nat) : vb 0 n = zb n := by
  refine List.ext_getElem (by rw [vb_length, zb_length]) fun i h1 h2 => ?_
  simp [vb, zb]
theorem zb_add (a b : Nat) : zb a ++ zb b = zb (a + b) := by simp [zb, List.replicate_append_replicate]

def uwE (n : Int) : Int := if n < 0 ∨ 65536 < n then 10 else 0
def uwB (bs : List Nat) (n : Int) : List Nat := if uwE n = 0 then bs ++ (zb n.toNat ++ [1]) else bs


theorem i64_low (v : Int) (n : Nat) (hn : n ≤ 48) : bits .and .i64 v ((2 ^ n - 1 : Nat) : Int) = v % 2 ^ n := by
  have h48 : (2 : Nat) ^ n ≤ 2 ^ 48 := Nat.pow_le_pow_right (by omega) hn
  have h48' : (2 : Nat) ^ 48 = 281474976710656 := by decide
  have hp : 0 < (2 : Nat) ^ n := Nat.pow_pos (by omega)
  show IntKind.i64.wrap ((BitVec.ofInt 64 v &&& BitVec.ofInt 64 ((2 ^ n - 1 : Nat) : Int)).toNat : Int) = _
  have e2 : (BitVec.ofInt 64 ((2 ^ n - 1 : Nat) : Int)).toNat = 2 ^ n - 1 := by
    rw [BitVec.ofInt_natCast, BitVec.toNat_ofNat]
    exact Nat.mod_eq_of_lt (Nat.lt_of_le_of_lt (Nat.sub_le _ _) (Nat.lt_of_le_of_lt h48 (by decide)))
  rw [BitVec.toNat_and, e2, Nat.and_two_pow_sub_one_eq_mod, BitVec.toNat_ofInt]
  have hd : ((2 ^ n : Nat) : Int) ∣ ((2 ^ 64 : Nat) : Int) := Int.natCast_dvd_natCast.2 (Nat.pow_dvd_pow 2 (by omega))
  have hnn : 0 ≤ v % ((2 ^ 64 : Nat) : Int) := Int.emod_nonneg _ (by decide)
  have e3 : (((v % ((2 ^ 64 : Nat) : Int)).toNat % 2 ^ n : Nat) : Int) = v % 2 ^ n := by
    rw [Int.natCast_emod, Int.toNat_of_nonneg hnn, Int.emod_emod_of_dvd _ hd]
    simp
  have hlt : (v % ((2 ^ 64 : Nat) : Int)).toNat % 2 ^ n < 9223372036854775808 := Nat.lt_of_lt_of_le (Nat.mod_lt _ hp) (Nat.le_trans h48 (by decide))
  rw [wrap_i64_nat _ hlt, e3]

theorem sw_facts (v : Int) (k : Nat) (hk : k ≤ 47) : ∃ K1 K M z : Nat, (2 : Int) ^ k = K1 ∧ (2 : Int) ^ (k + 1) = K ∧ (1 ≤ K1 ∧ K1 ≤ 281474976710656 ∧ 1 ≤ K ∧ K ≤ 281474976710656) ∧ K - 1 = M ∧ bits .and .i64 v (M : Int) = z ∧ v % 2 ^ (k + 1) = z ∧ z < 2 ^ (k + 1) := by
  have hpk := pow48 k (by omega)
  have hpq := pow48 (k + 1) (by omega)
  have e1 : ((2 : Int) ^ k) = ((2 ^ k : Nat) : Int) := by simp
  have e2 : ((2 : Int) ^ (k + 1)) = ((2 ^ (k + 1) : Nat) : Int) := by simp
  have hz := i64_low v (k + 1) (by omega)
  have hz0 : 0 ≤ v % 2 ^ (k + 1) := Int.emod_nonneg _ (by omega)
  have hz1 : v % 2 ^ (k + 1) < 2 ^ (k + 1) := Int.emod_lt_of_pos _ (by omega)
  have hz2 : v % 2 ^ (k + 1) = ((v % 2 ^ (k + 1)).toNat : Int) := (Int.toNat_of_nonneg hz0).symm
  refine ⟨2 ^ k, 2 ^ (k + 1), 2 ^ (k + 1) - 1, (v % 2 ^ (k + 1)).toNat, e1, e2, ?_, rfl, by rw [hz]; exact hz2, hz2, ?_⟩
  · rw [e1] at hpk
    rw [e2] at hpq
    exact ⟨Int.ofNat_le.1 hpk.1, Int.ofNat_le.1 hpk.2, Int.ofNat_le.1 hpq.1, Int.ofNat_le.1 hpq.2⟩
  · rw [hz2, e2] at hz1
    exact Int.ofNat_lt.1 hz1
theorem wrap_neg_i (K : Nat) (h : K ≤ 281474976710656) : IntKind.i64.wrap (-(K : Int)) = -K := by rw [IntKind.wrap_i64]; omega
theorem wrap_neg (K : Nat) (h : K ≤ 281474976710656) : wrap64 (-(K : Int)) = -K := by unfold wrap64; omega


def swE (n v : Int) : Int := if n < 0 ∨ 48 < n then 1 else if (n = 0 ∧ v ≠ 0) ∨ (0 < n ∧ (v < -2 ^ (n.toNat - 1) ∨ 2 ^ (n.toNat - 1) ≤ v)) then 10 else 0
def swB (bs : List Nat) (n v : Int) : List Nat := if swE n v = 0 then bs ++ vb (v % 2 ^ n.toNat).toNat n.toNat else bs


def nv8 (l : List Nat) : List Value := l.map fun (x : Nat) => Value.int .u8 (x : Int)
set_option maxHeartbeats 800000 in
theorem bytesN_any (l m : List Nat) (A B : Option Addr) (c d : Nat) (w : World) (hl : Rd w A (nv8 l)) (hm : Rd w B (nv8 m)) (h63 : l.length < 9223372036854775807) :
    Calls Tryd.prog 13 #[.slice A l.length c, .slice B m.length d] w fun e w' => e = .returned (.bool (decide (l = m))) ∧ Below w.heap.size w w' := by
  have Hl := Lib.hid hl; clear hl
  have Hm := Lib.hid hm; clear hm
  by_cases hlen : l.length = m.length
  · have hx : ((l.length : Int) != (m.length : Int)) = false := by rw [bne_eq_false_iff_eq]; omega
    have Hlen := Lib.hid hlen
    clear hlen
    go_enter Tryd.func13, Tryd.ntmps13
    go_wp2_with fail
    go_loopw [5] (fun i wr => ∃ k : Nat, k ≤ l.length ∧ i = .int .i64 k ∧ Below w.heap.size w wr ∧ Hid (l.take k = m.take k)) (fun i _ => l.length - (intOf i).toNat)
    case atStart => exact ⟨0, by omega, rfl, Below.refl _ _, by simp [Hid]⟩
    case round =>
      obtain ⟨k, hk, rfl, hb, Ht⟩ := hrel
      by_cases hkk : k < l.length
      · have hkm : k < m.length := by have := Hlen.out; omega
        obtain ⟨b1, o1, rfl, hc1⟩ := (Hl.out.below hb) k (.int .u8 l[k]) (by simp [nv8, hkk])
        obtain ⟨b2, o2, rfl, hc2⟩ := (Hm.out.below hb) k (.int .u8 m[k]) (by simp [nv8, hkm])
        have hi0 : (0 : Int) ≤ (k : Int) := by omega
        have hi1 : (k : Int) < l.length := by omega
        have hi2 : (k : Int) < m.length := by omega
        have Hs : Hid (l[k] = m[k] → l.take (k + 1) = m.take (k + 1)) := by
          intro h
          rw [List.take_succ_eq_append_getElem hkk, List.take_succ_eq_append_getElem hkm, Ht.out, h]
        have Hn : Hid (l[k] ≠ m[k] → l ≠ m) := by
          intro h e; subst e; exact h rfl
        generalize l[k] = x at *
        generalize m[k] = y at *
        by_cases hxy : x = y
        · have Hxy := Lib.hid hxy
          have hq : ((x : Int) != (y : Int)) = false := by rw [bne_eq_false_iff_eq]; omega
          clear hxy
          go_wp2_with fail
          go_quiet (fail)
          go_wp2_with fail
          go_roundw
          case rel => exact ⟨k + 1, by omega, by go_num, by repeat (first | exact Below.refl _ _ | assumption | refine below_drewN ?_ _ | refine Below.drew ?_ | refine Below.alloc ?_ (Nat.le_refl _) _ | refine bal ?_ _ | refine bnext ?_ (by assumption)), Hs.out Hxy.out⟩
          case measure => simp [intOf] <;> omega
        · have Hxy := Lib.hid hxy
          have hq : ((x : Int) != (y : Int)) = true := by rw [bne_iff_ne]; omega
          clear hxy
          go_wp2_with fail
          go_quiet (fail)
          go_wp2_with fail
          go_ret
          exact ⟨ret_bool (decide_eq_false (Hn.out Hxy.out)).symm, by repeat (first | exact Below.refl _ _ | assumption | refine below_drewN ?_ _ | refine Below.drew ?_ | refine Below.alloc ?_ (Nat.le_refl _) _ | refine bal ?_ _ | refine bnext ?_ (by assumption))⟩
      · obtain rfl : k = l.length := by omega
        have He : Hid (l = m) := by
          have h := Ht.out
          rw [List.take_of_length_le (Nat.le_refl _), List.take_of_length_le (by rw [Hlen.out]; exact Nat.le_refl _)] at h
          exact h
        go_wp2_with fail
        go_ret
        exact ⟨ret_bool (decide_eq_true He.out).symm, hb⟩
  · have hx : ((l.length : Int) != (m.length : Int)) = true := by rw [bne_iff_ne]; omega
    have Hn : Hid (l ≠ m) := fun e => hlen (by rw [e])
    clear hlen
    go_enter Tryd.func13, Tryd.ntmps13
    go_wp2_with fail
    go_ret
    exact ⟨ret_bool (decide_eq_false Hn.out).symm, Below.refl _ _⟩
theorem bv_nv8 (l : List UInt8) : bv l = nv8 (l.map (·.toNat)) := by simp [bv, nv8]
theorem map_toNat_inj {l m : List UInt8} (h : l.map (·.toNat) = m.map (·.toNat)) : l = m := by
  induction l generalizing m with
  | nil => cases m with
    | nil => rfl
    | cons y m => simp at h
  | cons x l ih => cases m with
    | nil => simp at h
    | cons y m =>
      simp only [List.map_cons, List.cons.injEq] at h
      rw [UInt8.toNat_inj.1 h.1, ih h.2]
theorem bytes_any (l m : List UInt8) (A B : Option Addr) (c d : Nat) (w : World) (hl : Rd w A (bv l)) (hm : Rd w B (bv m)) (h63 : l.length < 9223372036854775807) :
    Calls Tryd.prog 13 #[.slice A l.length c, .slice B m.length d] w fun e w' => e = .returned (.bool (decide (l = m))) ∧ Below w.heap.size w w' := by
  rw [bv_nv8] at hl hm
  have h := bytesN_any (l.map (·.toNat)) (m.map (·.toNat)) A B c d w hl hm (by simpa using h63)
  rw [List.length_map, List.length_map, show decide (l.map (·.toNat) = m.map (·.toNat)) = decide (l = m) from decide_eq_decide.2 ⟨map_toNat_inj, fun e => by rw [e]⟩] at h
  exact h

theorem Take_l (R t t' : Nat) (A : Option Addr) (l : List UInt8) (c : Nat) (n v : Int) (w : World) (hr : Rdr w R t A l c) (h1 : tkE n (8 * l.length - t) = 0) (h2 : (tkV l t n : Int) = v) (h3 : tkT l t n = t') :
    Calls Tryd.prog 62 #[.pointer (some ⟨R, 0, none⟩), .int .i64 n] w fun e w' => e = .returned (.tuple #[.int .i64 v, .int .i64 0]) ∧ Rdr w' R t' A l c ∧ Fr (· = R) w w' := by
  have h := Take_any R t A l c n w hr
  rw [h1, h2, h3] at h
  exact h


/-- Bits as values. -/
def iv8 (l : List Nat) : List Value := l.map fun (x : Nat) => Value.int .i64 (x : Int)
theorem iv8_append (l m : List Nat) : iv8 (l ++ m) = iv8 l ++ iv8 m := by simp [iv8]
theorem iv8_length (l : List Nat) : (iv8 l).length = l.length := by simp [iv8]
/-- The bits of bytes. -/
def bitL (l : List UInt8) (m : Nat) : List Nat := (List.range m).map (bitAt l)
theorem bitL_length (l : List UInt8) (m : Nat) : (bitL l m).length = m := by simp [bitL]
theorem bitL_succ (l : List UInt8) (m : Nat) : bitL l (m + 1) = bitL l m ++ [bitAt l m] := by simp [bitL, List.range_succ]
theorem info_int1 : (Tryd.prog.info? 3).map (fun i => (i.zero, i.size, i.bytes)) = some (some (.int .i64 0), 1, 8) := by kernel_rfl

set_option maxRecDepth 100000 in
set_option maxHeartbeats 2000000 in
theorem RBits_any (l : List UInt8) (A : Option Addr) (c : Nat) (w : World) (hr : Rd w A (bv l)) (hl : l.length ≤ 1000000) :
    Calls Tryd.prog 39 #[.slice A l.length c] w fun e w' => ∃ v, e = .returned v ∧ Hid (w'.ownsRow w.heap.size 3 1 v (8 * l.length) (iv8 (bitL l (8 * l.length)))) ∧ Below w.heap.size w w' := by
  have Hr := Lib.hid hr
  clear hr
  go_enter Tryd.func39, Tryd.ntmps39
  go_wp2_with fail
  go_loopw [3, 4] (fun v iv wr => ∃ i : Nat, i ≤ l.length ∧ iv = .int .i64 (i : Int) ∧ Hid (wr.ownsRow w.heap.size 3 1 v (8 * i) (iv8 (bitL l (8 * i)))) ∧ Hid (Below w.heap.size w wr)) (fun _ iv _ => l.length - (intOf iv).toNat)
  case atStart => exact ⟨0, by omega, rfl, World.ownsRow_nil w w.heap.size _ 1, Below.refl _ _⟩
  case round =>
    obtain ⟨i, hi, rfl, Hv, Hb⟩ := hrel
    by_cases hii : i < l.length
    · have hx := (l.getD i 0).toNat_lt
      have HRd := Lib.hid (fun (W : World) (hW : Below w.heap.size w W) => (Hr.out.below hW) i (.int .u8 (l.getD i 0).toNat) (by rw [bv_get l i hii]; simp [List.getD_eq_getElem?_getD, List.getElem?_eq_getElem hii]))
      have HBt : Hid (∀ q, q < 8 → bitAt l (8 * i + q) = (l.getD i 0).toNat / 2 ^ (7 - q) % 2) := by
        intro q hq
        rw [bitAt, show (8 * i + q) / 8 = i from by omega, show (8 * i + q) % 8 = q from by omega]
      generalize (l.getD i 0).toNat = x at *
      go_wp2_with fail
      go_loopw [3, 5] (fun v kv wr => ∃ q m : Nat, q ≤ 8 ∧ kv = .int .i64 (7 - (q : Int)) ∧ Hid (8 * i + q = m) ∧ Hid (wr.ownsRow w.heap.size 3 1 v m (iv8 (bitL l m))) ∧ Hid (Below w.heap.size w wr)) (fun _ kv _ => (intOf kv + 1).toNat)
      case atStart => exact ⟨0, 8 * i, by omega, rfl, rfl, Hv.out, Hb.out⟩
      case round =>
        clear Hv Hb
        obtain ⟨q, m, hq, rfl, Hm, Hv, Hb⟩ := hrel
        by_cases hqq : q < 8
        · obtain ⟨b, o, rfl, hc⟩ := HRd.out _ Hb.out
          obtain ⟨r, hr⟩ : ∃ r, 7 - q = r := ⟨_, rfl⟩
          have hr8 : (7 : Int) - q = (r : Int) := by omega
          have Hbit := Lib.hid (HBt.out q hqq)
          rw [hr, Hm.out] at Hbit
          have Hs : Hid (iv8 (bitL l (m + 1)) = iv8 (bitL l m) ++ [.int .i64 (bitAt l m : Nat)]) := by show _ = _; rw [bitL_succ, iv8_append]; rfl
          generalize bitAt l m = B at *
          have h6 : x / 2 ^ r ≤ x := Nat.div_le_self _ _
          have e2 : ((x : Int) / 2 ^ r) = ((x / 2 ^ r : Nat) : Int) := by simp
          have ha := i64_and_nat (x / 2 ^ r) 1 (by omega) (by omega)
          rw [Nat.and_one_is_mod, ← Hbit.out] at ha
          have ha1 : bits .and .i64 ((x : Int) / 2 ^ r) 1 = (B : Int) := by rw [e2]; exact ha
          have ha2 : bits .and .i64 (wrap64 ((x : Int) / 2 ^ r)) 1 = (B : Int) := by rw [e2, wrap_nat _ (by omega)]; exact ha
          have hm9 : m ≤ 8000000 := by rw [← Hm.out]; omega
          have hbs := Hb.out.size
          have hmin : min r 64 = r := Nat.min_eq_left (by omega)
          have hr0 : (0 : Int) ≤ r := by omega
          have hwr : IntKind.i64.wrap ((r : Int) - 1) = (r : Int) - 1 := by rw [IntKind.wrap_i64]; omega
          clear h6 e2 ha
          go_wp2_with (at_builtin; refine app1 (w0 := w) rfl _ _ 65 rfl Tryd.underlying65 info_int1 rfl (by decide) rfl Hv.out (Nat.le_refl _) hbs Hb.out rfl rfl (one_int _ _) (by omega) (by unfold maxLen; omega) ?_; intro v1 w6 own1 hb6 hs6; have Hown1 := Lib.hid own1; have Hb6 := Lib.hid hb6; clear own1 hb6)
          go_roundw
          case rel => exact ⟨q + 1, m + 1, by omega, by first | (congr 1; omega) | (simp; omega), by show _ = _; rw [← Hm.out]; rfl, by rw [Hs.out]; exact Hown1.out, Hb6.out⟩
          case measure => simp [intOf] <;> omega
        · obtain rfl : q = 8 := by omega
          have hm8 : 8 * (i + 1) = m := by have := Hm.out; omega
          go_wp2_with fail
          go_roundw
          case rel => exact ⟨i + 1, by omega, by go_num, by rw [hm8]; exact Hv.out, Hb.out⟩
          case measure => simp [intOf] <;> omega
    · obtain rfl : i = l.length := by omega
      go_wp2_with fail
      go_ret
      exact ⟨_, rfl, Hv.out, Hb.out⟩


theorem sg_bit {f : Nat → Nat} (hf : ∀ i, f i < 2) (t n i : Nat) (hi : i < n) : sg f t n / 2 ^ (n - 1 - i) % 2 = f (t + i) := by
  have h := sg_add f t (i + 1) (n - 1 - i)
  rw [show i + 1 + (n - 1 - i) = n from by omega] at h
  have hlt := sg_lt hf (t + (i + 1)) (n - 1 - i)
  rw [h, Nat.mul_comm, Nat.mul_add_div (Nat.pow_pos (by omega)), Nat.div_eq_of_lt hlt, Nat.add_zero, sg]
  have := hf (t + i)
  omega
theorem vb_sg {f : Nat → Nat} (hf : ∀ i, f i < 2) (t n : Nat) : vb (sg f t n) n = (List.range n).map fun i => f (t + i) := by
  unfold vb
  refine List.map_congr_left fun i hi => ?_
  exact sg_bit hf t n i (List.mem_range.1 hi)
theorem bitL_add (l : List UInt8) (t n : Nat) : bitL l t ++ (List.range n).map (fun i => bitAt l (t + i)) = bitL l (t + n) := by
  unfold bitL
  rw [List.range_add, List.map_append, List.map_map]; rfl
theorem bitL_lt (l : List UInt8) (t : Nat) : ∀ b ∈ bitL l t, b < 2 := by
  intro b hb
  simp only [bitL, List.mem_map] at hb
  obtain ⟨i, -, rfl⟩ := hb
  exact bitAt_lt l i
theorem bitL_get (l : List UInt8) (t i : Nat) (h : i < t) : (bitL l t).getD i 0 = bitAt l i := by
  rw [List.getD_eq_getElem?_getD, List.getElem?_eq_getElem (by rw [bitL_length]; exact h)]
  simp [bitL]
/-- The bytes of the bits of bytes. -/
theorem pkL_bitL (l : List UInt8) : pkL (bitL l (8 * l.length)) = l := by
  refine List.ext_getElem (by rw [pkL_length, bitL_length]; omega) fun i h1 h2 => ?_
  have e : byteAt (bitL l (8 * l.length)) i = (l[i]).toNat := by
    have h3 : byteAt (bitL l (8 * l.length)) i = sg (bitAt l) (8 * i) 8 := sg_congr _ _ fun j hj => bitL_get l _ _ (by omega)
    have h4 := sg_byte l (8 * i) 8 (by omega)
    rw [h3, h4, show 8 * i / 8 = i from by omega, show 8 - 8 * i % 8 - 8 = 0 from by omega, Nat.pow_zero, Nat.div_one, List.getD_eq_getElem?_getD, List.getElem?_eq_getElem h2]
    exact Nat.mod_eq_of_lt (l[i]).toNat_lt
  simp only [pkL, List.getElem_map, List.getElem_range]
  rw [e]
  simp
/-- The bits of the bytes of bits. -/
theorem bitAt_pkL {bs : List Nat} (h : ∀ b ∈ bs, b < 2) (t : Nat) : bitAt (pkL bs) t = bs.getD t 0 := by
  have hf : ∀ i, (fun t => bs.getD t 0) i < 2 := fun i => getD_lt h i
  rcases Nat.lt_or_ge (t / 8) ((bs.length + 7) / 8) with h1 | h1
  · have e : ((pkL bs).getD (t / 8) 0).toNat = byteAt bs (t / 8) := by
      rw [List.getD_eq_getElem?_getD, List.getElem?_eq_getElem (by rw [pkL_length]; exact h1)]
      simp only [pkL, List.getElem_map, List.getElem_range, Option.getD_some]
      have := byteAt_lt h (t / 8)
      rw [UInt8.toNat_ofNat', Nat.mod_eq_of_lt (by omega)]
    have h2 := sg_bit hf (8 * (t / 8)) 8 (t % 8) (by omega)
    rw [bitAt, e, byteAt, show 7 - t % 8 = 8 - 1 - t % 8 from by omega, h2, show 8 * (t / 8) + t % 8 = t from by omega]
  · rw [bitAt, getD_out bs t (by omega), List.getD_eq_getElem?_getD, List.getElem?_eq_none (by rw [pkL_length]; exact h1)]
    simp


/-- The number of the first k of some bits; s: the first one is less. -/
def numZ (m : List Nat) (s : Bool) (k : Nat) : Int := (sg (fun i => m.getD i 0) 0 k : Int) - (if s = true ∧ 0 < k then (m.getD 0 0 : Int) * 2 ^ k else 0)
theorem sg_head {m : List Nat} (h : ∀ b ∈ m, b < 2) : ∀ k, m.getD 0 0 * 2 ^ k ≤ sg (fun i => m.getD i 0) 0 (k + 1)
  | 0 => by simp [sg]
  | k + 1 => by
    have := sg_head h k
    rw [sg, Nat.pow_succ]
    rw [← Nat.mul_assoc]
    omega
theorem numZ_bd {m : List Nat} (h : ∀ b ∈ m, b < 2) (s : Bool) (k : Nat) (hk : k ≤ 48) : -281474976710656 ≤ numZ m s k ∧ numZ m s k ≤ 281474976710656 := by
  have h1 := sg_lt (f := fun i => m.getD i 0) (fun i => getD_lt h i) 0 k
  have h2 : (2 : Nat) ^ k ≤ 2 ^ 48 := Nat.pow_le_pow_right (by omega) hk
  have h3 := getD_lt h 0
  have e : ((2 : Int) ^ k) = ((2 ^ k : Nat) : Int) := by simp
  unfold numZ
  rw [e]
  generalize sg (fun i => m.getD i 0) 0 k = S at *
  generalize (2 : Nat) ^ k = K at *
  generalize m.getD 0 0 = b at *
  have h4 : b * K ≤ K := by
    have : b ≤ 1 := by omega
    calc b * K ≤ 1 * K := Nat.mul_le_mul_right _ this
      _ = K := Nat.one_mul _
  have e2 : ((b : Int) * (K : Int)) = ((b * K : Nat) : Int) := by simp
  rw [e2]
  generalize b * K = q at *
  split <;> omega
theorem numZ_step (m : List Nat) (s : Bool) (k : Nat) (h : s = false ∨ 0 < k) : numZ m s (k + 1) = 2 * numZ m s k + (m.getD k 0 : Int) := by
  unfold numZ
  rw [sg, Nat.zero_add]
  cases s with
  | false => simp
  | true =>
    have hk : 0 < k := by simpa using h
    rw [if_pos ⟨rfl, by omega⟩, if_pos ⟨rfl, hk⟩, Int.pow_succ]
    generalize sg (fun i => m.getD i 0) 0 k = S at *
    have : (m.getD 0 0 : Int) * (2 ^ k * 2) = 2 * ((m.getD 0 0 : Int) * 2 ^ k) := by rw [← Int.mul_assoc, Int.mul_comm]
    rw [this]
    generalize (m.getD 0 0 : Int) * 2 ^ k = q at *
    generalize m.getD k 0 = b at *
    omega
theorem numZ_first (m : List Nat) : numZ m true 1 = -(m.getD 0 0 : Int) := by
  unfold numZ
  rw [if_pos ⟨rfl, by omega⟩]
  simp [sg]
  omega
theorem iv8_get (l : List Nat) (j : Nat) (h : j < l.length) : (iv8 l)[j]? = some (.int .i64 ((l.getD j 0 : Nat) : Int)) := by
  simp [iv8, List.getD_eq_getElem?_getD, List.getElem?_eq_getElem h]
set_option maxHeartbeats 1000000 in
theorem Number_any (m : List Nat) (s : Bool) (hb : ∀ b ∈ m, b < 2) (hl : m.length ≤ 48) (A : Option Addr) (c : Nat) (w : World) (hr : Rd w A (iv8 m)) :
    Calls Tryd.prog 59 #[.slice A m.length c, .bool s] w fun e w' => e = .returned (.int .i64 (numZ m s m.length)) ∧ w' = w := by
  have Hr := Lib.hid hr
  have Hbd := Lib.hid (numZ_bd hb s)
  have HgL := Lib.hid (getD_lt hb)
  clear hr hb
  go_enter Tryd.func59, Tryd.ntmps59
  go_wp2_with fail
  go_loop [5, 6] (fun nv iv => ∃ k : Nat, k ≤ m.length ∧ iv = .int .i64 (k : Int) ∧ nv = .int .i64 (numZ m s k)) (fun _ iv => m.length - (intOf iv).toNat)
  case atStart => exact ⟨0, by omega, rfl, by simp [numZ, sg]⟩
  case round =>
    obtain ⟨k, hk, rfl, rfl⟩ := hrel
    by_cases hkk : k < m.length
    · obtain ⟨b, o, rfl, hc⟩ := Hr.out k _ (iv8_get m k hkk)
      obtain ⟨bd1, bd2⟩ := Hbd.out k (by omega)
      have hbk := HgL.out k
      have hi1 : (k : Int) < m.length := by omega
      by_cases h0 : s = true ∧ k = 0
      · obtain ⟨rfl, rfl⟩ := h0
        have Hst := Lib.hid (numZ_first m)
        have hz : numZ m true 0 = 0 := by simp [numZ, sg]
        rw [hz]
        clear hz bd1 bd2
        simp only [Nat.add_zero] at hc
        generalize m.getD 0 0 = x at *
        go_wp2_with fail
        go_round
        case rel => exact ⟨1, by omega, rfl, by rw [Hst.out]⟩
        case measure => simp [intOf] <;> omega
      · have hs : s = false ∨ 0 < k := by
          cases s with
          | false => exact .inl rfl
          | true => right; rcases Nat.eq_zero_or_pos k with h | h; exact absurd ⟨rfl, h⟩ h0; exact h
        have Hst := Lib.hid (numZ_step m s k hs)
        generalize numZ m s k = n at *
        generalize m.getD k 0 = x at *
        rcases hs with rfl | hs
        · clear h0
          by_cases hk0 : k = 0
          · subst hk0
            simp only [Nat.add_zero] at hc
            go_wp2_with fail
            go_round
            case rel => exact ⟨1, by omega, rfl, by rw [Hst.out]⟩
            case measure => simp [intOf] <;> omega
          · have hk0' : ((k : Int) == 0) = false := by rw [beq_eq_false_iff_ne]; omega
            clear hk0
            go_wp2_with fail
            go_round
            case rel => exact ⟨k + 1, by omega, by go_num, by rw [Hst.out]⟩
            case measure => simp [intOf] <;> omega
        · have hk0' : ((k : Int) == 0) = false := by rw [beq_eq_false_iff_ne]; omega
          clear h0
          go_wp2_with fail
          go_round
          case rel => exact ⟨k + 1, by omega, by go_num, by rw [Hst.out]⟩
          case measure => simp [intOf] <;> omega
    · obtain rfl : k = m.length := by omega
      go_wp2_with fail
      go_ret
      exact ⟨rfl, rfl⟩
/-- What Number tells of the bits of bytes. -/
theorem numZ_u (f : Nat → Nat) (m : List Nat) (t : Nat) (h : ∀ i, i < m.length → m.getD i 0 = f (t + i)) : numZ m false m.length = (sg f t m.length : Nat) := by
  unfold numZ
  rw [if_neg (fun h => by cases h.1), Int.sub_zero]
  have key : ∀ n, n ≤ m.length → sg (fun i => m.getD i 0) 0 n = sg f t n := by
    intro n
    induction n with
    | zero => intro _; rfl
    | succ n ih => intro hn; rw [sg, sg, ih (by omega), Nat.zero_add, h n (by omega)]
  rw [key _ (Nat.le_refl _)]
theorem sg_top {f : Nat → Nat} (h : ∀ i, f i < 2) (t : Nat) : ∀ k, sg f t (k + 1) / 2 ^ k = f t
  | 0 => by simp [sg]
  | k + 1 => by
    have e := sg_top h t k
    have hb := h (t + (k + 1))
    rw [sg, Nat.pow_succ, Nat.mul_comm (2 ^ k) 2, ← Nat.div_div_eq_div_mul]
    rw [show (2 * sg f t (k + 1) + f (t + (k + 1))) / 2 = sg f t (k + 1) from by omega]
    exact e
theorem numZ_s (f : Nat → Nat) (hf : ∀ i, f i < 2) (m : List Nat) (t : Nat) (h : ∀ i, i < m.length → m.getD i 0 = f (t + i)) : numZ m true m.length = sgS f t m.length := by
  have h1 := numZ_u f m t h
  unfold numZ at h1 ⊢
  rw [if_neg (fun h => by cases h.1), Int.sub_zero] at h1
  rw [h1]
  unfold sgS
  rcases Nat.eq_zero_or_pos m.length with h0 | h0
  · rw [h0]; simp [sg]
  · obtain ⟨k, hk⟩ : ∃ k, m.length = k + 1 := ⟨m.length - 1, by omega⟩
    have h2 := sg_top hf t k
    have h3 : m.getD 0 0 = f t := by have := h 0 h0; simpa using this
    rw [hk, Nat.add_sub_cancel, h2, if_pos ⟨rfl, by omega⟩, h3]
    have h4 := hf t
    rcases (show f t = 0 ∨ f t = 1 by omega) with h5 | h5
    · rw [h5, if_neg (by omega)]; simp
    · rw [h5, if_pos (by omega)]; simp
end Go.Proofs.YtgohfbfdhdepnaaDoor
