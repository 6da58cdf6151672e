/-
  The Writer's further facts, the reference's bits and numbers.
  jetsamref01.Put: the walk.
  jetsamref01: Unary and Bytes; Writer.Append.
  header.Write: steps of a Writer.
-/
import Derived.Test.YtgohfbfdhdepnaaDoorHb2
import Derived.Test.YtgohfbfdhdepnaaDoorHb8
import Derived.Test.YtgohfbfdhdepnaaDoorHb4
import Derived.Test.YtgohfbfdhdepnaaDoorHb6
import Derived.Test.YtgohfbfdhdepnaaDoorHb5
set_option linter.unusedSimpArgs false
set_option linter.unusedVariables false
namespace Go.Proofs.YtgohfbfdhdepnaaDoor
open Go.RowKit


def zb (n : Nat) : List Nat := List.replicate n 0
theorem zb_length (n : Nat) : (zb n).length = n := by simp [zb]
theorem vb_zero (n : Nat) : vb 0 n = zb n := by
  refine List.ext_getElem (by rw [vb_length, zb_length]) fun i h1 h2 => ?_
  simp [vb, zb]
theorem zb_add (a b : Nat) : zb a ++ zb b = zb (a + b) := by simp [zb, List.replicate_append_replicate]

def uwE (n : Int) : Int := if n < 0 ∨ 65536 < n then 10 else 0
def uwB (bs : List Nat) (n : Int) : List Nat := if uwE n = 0 then bs ++ (zb n.toNat ++ [1]) else bs


theorem i64_low (v : Int) (n : Nat) (hn : n ≤ 48) : bits .and .i64 v ((2 ^ n - 1 : Nat) : Int) = v % 2 ^ n := by
  have h48 : (2 : Nat) ^ n ≤ 2 ^ 48 := Nat.pow_le_pow_right (by omega) hn
  have h48' : (2 : Nat) ^ 48 = 281474976710656 := by decide
  have hp : 0 < (2 : Nat) ^ n := Nat.pow_pos (by omega)
  show IntKind.i64.wrap ((BitVec.ofInt 64 v &&& BitVec.ofInt 64 ((2 ^ n - 1 : Nat) : Int)).toNat : Int) = _
  have e2 : (BitVec.ofInt 64 ((2 ^ n - 1 : Nat) : Int)).toNat = 2 ^ n - 1 := by
    rw [BitVec.ofInt_natCast, BitVec.toNat_ofNat]
    exact Nat.mod_eq_of_lt (Nat.lt_of_le_of_lt (Nat.sub_le _ _) (Nat.lt_of_le_of_lt h48 (by decide)))
  rw [BitVec.toNat_and, e2, Nat.and_two_pow_sub_one_eq_mod, BitVec.toNat_ofInt]
  have hd : ((2 ^ n : Nat) : Int) ∣ ((2 ^ 64 : Nat) : Int) := Int.natCast_dvd_natCast.2 (Nat.pow_dvd_pow 2 (by omega))
  have hnn : 0 ≤ v % ((2 ^ 64 : Nat) : Int) := Int.emod_nonneg _ (by decide)
  have e3 : (((v % ((2 ^ 64 : Nat) : Int)).toNat % 2 ^ n : Nat) : Int) = v % 2 ^ n := by
    rw [Int.natCast_emod, Int.toNat_of_nonneg hnn, Int.emod_emod_of_dvd _ hd]
    simp
  have hlt : (v % ((2 ^ 64 : Nat) : Int)).toNat % 2 ^ n < 9223372036854775808 := Nat.lt_of_lt_of_le (Nat.mod_lt _ hp) (Nat.le_trans h48 (by decide))
  rw [wrap_i64_nat _ hlt, e3]

theorem sw_facts (v : Int) (k : Nat) (hk : k ≤ 47) : ∃ K1 K M z : Nat, (2 : Int) ^ k = K1 ∧ (2 : Int) ^ (k + 1) = K ∧ (1 ≤ K1 ∧ K1 ≤ 281474976710656 ∧ 1 ≤ K ∧ K ≤ 281474976710656) ∧ K - 1 = M ∧ bits .and .i64 v (M : Int) = z ∧ v % 2 ^ (k + 1) = z ∧ z < 2 ^ (k + 1) := by
  have hpk := pow48 k (by omega)
  have hpq := pow48 (k + 1) (by omega)
  have e1 : ((2 : Int) ^ k) = ((2 ^ k : Nat) : Int) := by simp
  have e2 : ((2 : Int) ^ (k + 1)) = ((2 ^ (k + 1) : Nat) : Int) := by simp
  have hz := i64_low v (k + 1) (by omega)
  have hz0 : 0 ≤ v % 2 ^ (k + 1) := Int.emod_nonneg _ (by omega)
  have hz1 : v % 2 ^ (k + 1) < 2 ^ (k + 1) := Int.emod_lt_of_pos _ (by omega)
  have hz2 : v % 2 ^ (k + 1) = ((v % 2 ^ (k + 1)).toNat : Int) := (Int.toNat_of_nonneg hz0).symm
  refine ⟨2 ^ k, 2 ^ (k + 1), 2 ^ (k + 1) - 1, (v % 2 ^ (k + 1)).toNat, e1, e2, ?_, rfl, by rw [hz]; exact hz2, hz2, ?_⟩
  · rw [e1] at hpk
    rw [e2] at hpq
    exact ⟨Int.ofNat_le.1 hpk.1, Int.ofNat_le.1 hpk.2, Int.ofNat_le.1 hpq.1, Int.ofNat_le.1 hpq.2⟩
  · rw [hz2, e2] at hz1
    exact Int.ofNat_lt.1 hz1
theorem wrap_neg_i (K : Nat) (h : K ≤ 281474976710656) : IntKind.i64.wrap (-(K : Int)) = -K := by rw [IntKind.wrap_i64]; omega
theorem wrap_neg (K : Nat) (h : K ≤ 281474976710656) : wrap64 (-(K : Int)) = -K := by unfold wrap64; omega


def swE (n v : Int) : Int := if n < 0 ∨ 48 < n then 1 else if (n = 0 ∧ v ≠ 0) ∨ (0 < n ∧ (v < -2 ^ (n.toNat - 1) ∨ 2 ^ (n.toNat - 1) ≤ v)) then 10 else 0
def swB (bs : List Nat) (n v : Int) : List Nat := if swE n v = 0 then bs ++ vb (v % 2 ^ n.toNat).toNat n.toNat else bs


def nv8 (l : List Nat) : List Value := l.map fun (x : Nat) => Value.int .u8 (x : Int)
set_option maxHeartbeats 800000 in
theorem bytesN_any (l m : List Nat) (A B : Option Addr) (c d : Nat) (w : World) (hl : Rd w A (nv8 l)) (hm : Rd w B (nv8 m)) (h63 : l.length < 9223372036854775807) :
    Calls Tryd.prog 13 #[.slice A l.length c, .slice B m.length d] w fun e w' => e = .returned (.bool (decide (l = m))) ∧ Below w.heap.size w w' := by
  have Hl := Lib.hid hl; clear hl
  have Hm := Lib.hid hm; clear hm
  by_cases hlen : l.length = m.length
  · have hx : ((l.length : Int) != (m.length : Int)) = false := by rw [bne_eq_false_iff_eq]; omega
    have Hlen := Lib.hid hlen
    clear hlen
    go_enter Tryd.func13, Tryd.ntmps13
    go_wp2_with fail
    go_loopw [5] (fun i wr => ∃ k : Nat, k ≤ l.length ∧ i = .int .i64 k ∧ Below w.heap.size w wr ∧ Hid (l.take k = m.take k)) (fun i _ => l.length - (intOf i).toNat)
    case atStart => exact ⟨0, by omega, rfl, Below.refl _ _, by simp [Hid]⟩
    case round =>
      obtain ⟨k, hk, rfl, hb, Ht⟩ := hrel
      by_cases hkk : k < l.length
      · have hkm : k < m.length := by have := Hlen.out; omega
        obtain ⟨b1, o1, rfl, hc1⟩ := (Hl.out.below hb) k (.int .u8 l[k]) (by simp [nv8, hkk])
        obtain ⟨b2, o2, rfl, hc2⟩ := (Hm.out.below hb) k (.int .u8 m[k]) (by simp [nv8, hkm])
        have hi0 : (0 : Int) ≤ (k : Int) := by omega
        have hi1 : (k : Int) < l.length := by omega
        have hi2 : (k : Int) < m.length := by omega
        have Hs : Hid (l[k] = m[k] → l.take (k + 1) = m.take (k + 1)) := by
          intro h
          rw [List.take_succ_eq_append_getElem hkk, List.take_succ_eq_append_getElem hkm, Ht.out, h]
        have Hn : Hid (l[k] ≠ m[k] → l ≠ m) := by
          intro h e; subst e; exact h rfl
        generalize l[k] = x at *
        generalize m[k] = y at *
        by_cases hxy : x = y
        · have Hxy := Lib.hid hxy
          have hq : ((x : Int) != (y : Int)) = false := by rw [bne_eq_false_iff_eq]; omega
          clear hxy
          go_wp2_with fail
          go_quiet (fail)
          go_wp2_with fail
          go_roundw
          case rel => exact ⟨k + 1, by omega, by go_num, by repeat (first | exact Below.refl _ _ | assumption | refine below_drewN ?_ _ | refine Below.drew ?_ | refine Below.alloc ?_ (Nat.le_refl _) _ | refine bal ?_ _ | refine bnext ?_ (by assumption)), Hs.out Hxy.out⟩
          case measure => simp [intOf] <;> omega
        · have Hxy := Lib.hid hxy
          have hq : ((x : Int) != (y : Int)) = true := by rw [bne_iff_ne]; omega
          clear hxy
          go_wp2_with fail
          go_quiet (fail)
          go_wp2_with fail
          go_ret
          exact ⟨ret_bool (decide_eq_false (Hn.out Hxy.out)).symm, by repeat (first | exact Below.refl _ _ | assumption | refine below_drewN ?_ _ | refine Below.drew ?_ | refine Below.alloc ?_ (Nat.le_refl _) _ | refine bal ?_ _ | refine bnext ?_ (by assumption))⟩
      · obtain rfl : k = l.length := by omega
        have He : Hid (l = m) := by
          have h := Ht.out
          rw [List.take_of_length_le (Nat.le_refl _), List.take_of_length_le (by rw [Hlen.out]; exact Nat.le_refl _)] at h
          exact h
        go_wp2_with fail
        go_ret
        exact ⟨ret_bool (decide_eq_true He.out).symm, hb⟩
  · have hx : ((l.length : Int) != (m.length : Int)) = true := by rw [bne_iff_ne]; omega
    have Hn : Hid (l ≠ m) := fun e => hlen (by rw [e])
    clear hlen
    go_enter Tryd.func13, Tryd.ntmps13
    go_wp2_with fail
    go_ret
    exact ⟨ret_bool (decide_eq_false Hn.out).symm, Below.refl _ _⟩
theorem bv_nv8 (l : List UInt8) : bv l = nv8 (l.map (·.toNat)) := by simp [bv, nv8]
theorem map_toNat_inj {l m : List UInt8} (h : l.map (·.toNat) = m.map (·.toNat)) : l = m := by
  induction l generalizing m with
  | nil => cases m with
    | nil => rfl
    | cons y m => simp at h
  | cons x l ih => cases m with
    | nil => simp at h
    | cons y m =>
      simp only [List.map_cons, List.cons.injEq] at h
      rw [UInt8.toNat_inj.1 h.1, ih h.2]
theorem bytes_any (l m : List UInt8) (A B : Option Addr) (c d : Nat) (w : World) (hl : Rd w A (bv l)) (hm : Rd w B (bv m)) (h63 : l.length < 9223372036854775807) :
    Calls Tryd.prog 13 #[.slice A l.length c, .slice B m.length d] w fun e w' => e = .returned (.bool (decide (l = m))) ∧ Below w.heap.size w w' := by
  rw [bv_nv8] at hl hm
  have h := bytesN_any (l.map (·.toNat)) (m.map (·.toNat)) A B c d w hl hm (by simpa using h63)
  rw [List.length_map, List.length_map, show decide (l.map (·.toNat) = m.map (·.toNat)) = decide (l = m) from decide_eq_decide.2 ⟨map_toNat_inj, fun e => by rw [e]⟩] at h
  exact h

theorem Take_l (R t t' : Nat) (A : Option Addr) (l : List UInt8) (c : Nat) (n v : Int) (w : World) (hr : Rdr w R t A l c) (h1 : tkE n (8 * l.length - t) = 0) (h2 : (tkV l t n : Int) = v) (h3 : tkT l t n = t') :
    Calls Tryd.prog 62 #[.pointer (some ⟨R, 0, none⟩), .int .i64 n] w fun e w' => e = .returned (.tuple #[.int .i64 v, .int .i64 0]) ∧ Rdr w' R t' A l c ∧ Fr (· = R) w w' := by
  have h := Take_any R t A l c n w hr
  rw [h1, h2, h3] at h
  exact h


/-- Bits as values. -/
def iv8 (l : List Nat) : List Value := l.map fun (x : Nat) => Value.int .i64 (x : Int)
theorem iv8_append (l m : List Nat) : iv8 (l ++ m) = iv8 l ++ iv8 m := by simp [iv8]
theorem iv8_length (l : List Nat) : (iv8 l).length = l.length := by simp [iv8]
/-- The bits of bytes. -/
def bitL (l : List UInt8) (m : Nat) : List Nat := (List.range m).map (bitAt l)
theorem bitL_length (l : List UInt8) (m : Nat) : (bitL l m).length = m := by simp [bitL]
theorem bitL_succ (l : List UInt8) (m : Nat) : bitL l (m + 1) = bitL l m ++ [bitAt l m] := by simp [bitL, List.range_succ]
theorem info_int1 : (Tryd.prog.info? 3).map (fun i => (i.zero, i.size, i.bytes)) = some (some (.int .i64 0), 1, 8) := by kernel_rfl

set_option maxRecDepth 100000 in
set_option maxHeartbeats 2000000 in
theorem RBits_any (l : List UInt8) (A : Option Addr) (c : Nat) (w : World) (hr : Rd w A (bv l)) (hl : l.length ≤ 1000000) :
    Calls Tryd.prog 39 #[.slice A l.length c] w fun e w' => ∃ v, e = .returned v ∧ Hid (w'.ownsRow w.heap.size 3 1 v (8 * l.length) (iv8 (bitL l (8 * l.length)))) ∧ Below w.heap.size w w' := by
  have Hr := Lib.hid hr
  clear hr
  go_enter Tryd.func39, Tryd.ntmps39
  go_wp2_with fail
  go_loopw [3, 4] (fun v iv wr => ∃ i : Nat, i ≤ l.length ∧ iv = .int .i64 (i : Int) ∧ Hid (wr.ownsRow w.heap.size 3 1 v (8 * i) (iv8 (bitL l (8 * i)))) ∧ Hid (Below w.heap.size w wr)) (fun _ iv _ => l.length - (intOf iv).toNat)
  case atStart => exact ⟨0, by omega, rfl, World.ownsRow_nil w w.heap.size _ 1, Below.refl _ _⟩
  case round =>
    obtain ⟨i, hi, rfl, Hv, Hb⟩ := hrel
    by_cases hii : i < l.length
    · have hx := (l.getD i 0).toNat_lt
      have HRd := Lib.hid (fun (W : World) (hW : Below w.heap.size w W) => (Hr.out.below hW) i (.int .u8 (l.getD i 0).toNat) (by rw [bv_get l i hii]; simp [List.getD_eq_getElem?_getD, List.getElem?_eq_getElem hii]))
      have HBt : Hid (∀ q, q < 8 → bitAt l (8 * i + q) = (l.getD i 0).toNat / 2 ^ (7 - q) % 2) := by
        intro q hq
        rw [bitAt, show (8 * i + q) / 8 = i from by omega, show (8 * i + q) % 8 = q from by omega]
      generalize (l.getD i 0).toNat = x at *
      go_wp2_with fail
      go_loopw [3, 5] (fun v kv wr => ∃ q m : Nat, q ≤ 8 ∧ kv = .int .i64 (7 - (q : Int)) ∧ Hid (8 * i + q = m) ∧ Hid (wr.ownsRow w.heap.size 3 1 v m (iv8 (bitL l m))) ∧ Hid (Below w.heap.size w wr)) (fun _ kv _ => (intOf kv + 1).toNat)
      case atStart => exact ⟨0, 8 * i, by omega, rfl, rfl, Hv.out, Hb.out⟩
      case round =>
        clear Hv Hb
        obtain ⟨q, m, hq, rfl, Hm, Hv, Hb⟩ := hrel
        by_cases hqq : q < 8
        · obtain ⟨b, o, rfl, hc⟩ := HRd.out _ Hb.out
          obtain ⟨r, hr⟩ : ∃ r, 7 - q = r := ⟨_, rfl⟩
          have hr8 : (7 : Int) - q = (r : Int) := by omega
          have Hbit := Lib.hid (HBt.out q hqq)
          rw [hr, Hm.out] at Hbit
          have Hs : Hid (iv8 (bitL l (m + 1)) = iv8 (bitL l m) ++ [.int .i64 (bitAt l m : Nat)]) := by show _ = _; rw [bitL_succ, iv8_append]; rfl
          generalize bitAt l m = B at *
          have h6 : x / 2 ^ r ≤ x := Nat.div_le_self _ _
          have e2 : ((x : Int) / 2 ^ r) = ((x / 2 ^ r : Nat) : Int) := by simp
          have ha := i64_and_nat (x / 2 ^ r) 1 (by omega) (by omega)
          rw [Nat.and_one_is_mod, ← Hbit.out] at ha
          have ha1 : bits .and .i64 ((x : Int) / 2 ^ r) 1 = (B : Int) := by rw [e2]; exact ha
          have ha2 : bits .and .i64 (wrap64 ((x : Int) / 2 ^ r)) 1 = (B : Int) := by rw [e2, wrap_nat _ (by omega)]; exact ha
          have hm9 : m ≤ 8000000 := by rw [← Hm.out]; omega
          have hbs := Hb.out.size
          have hmin : min r 64 = r := Nat.min_eq_left (by omega)
          have hr0 : (0 : Int) ≤ r := by omega
          have hwr : IntKind.i64.wrap ((r : Int) - 1) = (r : Int) - 1 := by rw [IntKind.wrap_i64]; omega
          clear h6 e2 ha
          go_wp2_with (at_builtin; refine app1 (w0 := w) rfl _ _ 65 rfl Tryd.underlying65 info_int1 rfl (by decide) rfl Hv.out (Nat.le_refl _) hbs Hb.out rfl rfl (one_int _ _) (by omega) (by unfold maxLen; omega) ?_; intro v1 w6 own1 hb6 hs6; have Hown1 := Lib.hid own1; have Hb6 := Lib.hid hb6; clear own1 hb6)
          go_roundw
          case rel => exact ⟨q + 1, m + 1, by omega, by first | (congr 1; omega) | (simp; omega), by show _ = _; rw [← Hm.out]; rfl, by rw [Hs.out]; exact Hown1.out, Hb6.out⟩
          case measure => simp [intOf] <;> omega
        · obtain rfl : q = 8 := by omega
          have hm8 : 8 * (i + 1) = m := by have := Hm.out; omega
          go_wp2_with fail
          go_roundw
          case rel => exact ⟨i + 1, by omega, by go_num, by rw [hm8]; exact Hv.out, Hb.out⟩
          case measure => simp [intOf] <;> omega
    · obtain rfl : i = l.length := by omega
      go_wp2_with fail
      go_ret
      exact ⟨_, rfl, Hv.out, Hb.out⟩


theorem sg_bit {f : Nat → Nat} (hf : ∀ i, f i < 2) (t n i : Nat) (hi : i < n) : sg f t n / 2 ^ (n - 1 - i) % 2 = f (t + i) := by
  have h := sg_add f t (i + 1) (n - 1 - i)
  rw [show i + 1 + (n - 1 - i) = n from by omega] at h
  have hlt := sg_lt hf (t + (i + 1)) (n - 1 - i)
  rw [h, Nat.mul_comm, Nat.mul_add_div (Nat.pow_pos (by omega)), Nat.div_eq_of_lt hlt, Nat.add_zero, sg]
  have := hf (t + i)
  omega
theorem vb_sg {f : Nat → Nat} (hf : ∀ i, f i < 2) (t n : Nat) : vb (sg f t n) n = (List.range n).map fun i => f (t + i) := by
  unfold vb
  refine List.map_congr_left fun i hi => ?_
  exact sg_bit hf t n i (List.mem_range.1 hi)
theorem bitL_add (l : List UInt8) (t n : Nat) : bitL l t ++ (List.range n).map (fun i => bitAt l (t + i)) = bitL l (t + n) := by
  unfold bitL
  rw [List.range_add, List.map_append, List.map_map]; rfl
theorem bitL_lt (l : List UInt8) (t : Nat) : ∀ b ∈ bitL l t, b < 2 := by
  intro b hb
  simp only [bitL, List.mem_map] at hb
  obtain ⟨i, -, rfl⟩ := hb
  exact bitAt_lt l i
theorem bitL_get (l : List UInt8) (t i : Nat) (h : i < t) : (bitL l t).getD i 0 = bitAt l i := by
  rw [List.getD_eq_getElem?_getD, List.getElem?_eq_getElem (by rw [bitL_length]; exact h)]
  simp [bitL]
/-- The bytes of the bits of bytes. -/
theorem pkL_bitL (l : List UInt8) : pkL (bitL l (8 * l.length)) = l := by
  refine List.ext_getElem (by rw [pkL_length, bitL_length]; omega) fun i h1 h2 => ?_
  have e : byteAt (bitL l (8 * l.length)) i = (l[i]).toNat := by
    have h3 : byteAt (bitL l (8 * l.length)) i = sg (bitAt l) (8 * i) 8 := sg_congr _ _ fun j hj => bitL_get l _ _ (by omega)
    have h4 := sg_byte l (8 * i) 8 (by omega)
    rw [h3, h4, show 8 * i / 8 = i from by omega, show 8 - 8 * i % 8 - 8 = 0 from by omega, Nat.pow_zero, Nat.div_one, List.getD_eq_getElem?_getD, List.getElem?_eq_getElem h2]
    exact Nat.mod_eq_of_lt (l[i]).toNat_lt
  simp only [pkL, List.getElem_map, List.getElem_range]
  rw [e]
  simp
/-- The bits of the bytes of bits. -/
theorem bitAt_pkL {bs : List Nat} (h : ∀ b ∈ bs, b < 2) (t : Nat) : bitAt (pkL bs) t = bs.getD t 0 := by
  have hf : ∀ i, (fun t => bs.getD t 0) i < 2 := fun i => getD_lt h i
  rcases Nat.lt_or_ge (t / 8) ((bs.length + 7) / 8) with h1 | h1
  · have e : ((pkL bs).getD (t / 8) 0).toNat = byteAt bs (t / 8) := by
      rw [List.getD_eq_getElem?_getD, List.getElem?_eq_getElem (by rw [pkL_length]; exact h1)]
      simp only [pkL, List.getElem_map, List.getElem_range, Option.getD_some]
      have := byteAt_lt h (t / 8)
      rw [UInt8.toNat_ofNat', Nat.mod_eq_of_lt (by omega)]
    have h2 := sg_bit hf (8 * (t / 8)) 8 (t % 8) (by omega)
    rw [bitAt, e, byteAt, show 7 - t % 8 = 8 - 1 - t % 8 from by omega, h2, show 8 * (t / 8) + t % 8 = t from by omega]
  · rw [bitAt, getD_out bs t (by omega), List.getD_eq_getElem?_getD, List.getElem?_eq_none (by rw [pkL_length]; exact h1)]
    simp


/-- The number of the first k of some bits; s: the first one is less. -/
def numZ (m : List Nat) (s : Bool) (k : Nat) : Int := (sg (fun i => m.getD i 0) 0 k : Int) - (if s = true ∧ 0 < k then (m.getD 0 0 : Int) * 2 ^ k else 0)
theorem sg_head {m : List Nat} (h : ∀ b ∈ m, b < 2) : ∀ k, m.getD 0 0 * 2 ^ k ≤ sg (fun i => m.getD i 0) 0 (k + 1)
  | 0 => by simp [sg]
  | k + 1 => by
    have := sg_head h k
    rw [sg, Nat.pow_succ]
    rw [← Nat.mul_assoc]
    omega
theorem numZ_bd {m : List Nat} (h : ∀ b ∈ m, b < 2) (s : Bool) (k : Nat) (hk : k ≤ 48) : -281474976710656 ≤ numZ m s k ∧ numZ m s k ≤ 281474976710656 := by
  have h1 := sg_lt (f := fun i => m.getD i 0) (fun i => getD_lt h i) 0 k
  have h2 : (2 : Nat) ^ k ≤ 2 ^ 48 := Nat.pow_le_pow_right (by omega) hk
  have h3 := getD_lt h 0
  have e : ((2 : Int) ^ k) = ((2 ^ k : Nat) : Int) := by simp
  unfold numZ
  rw [e]
  generalize sg (fun i => m.getD i 0) 0 k = S at *
  generalize (2 : Nat) ^ k = K at *
  generalize m.getD 0 0 = b at *
  have h4 : b * K ≤ K := by
    have : b ≤ 1 := by omega
    calc b * K ≤ 1 * K := Nat.mul_le_mul_right _ this
      _ = K := Nat.one_mul _
  have e2 : ((b : Int) * (K : Int)) = ((b * K : Nat) : Int) := by simp
  rw [e2]
  generalize b * K = q at *
  split <;> omega
theorem numZ_step (m : List Nat) (s : Bool) (k : Nat) (h : s = false ∨ 0 < k) : numZ m s (k + 1) = 2 * numZ m s k + (m.getD k 0 : Int) := by
  unfold numZ
  rw [sg, Nat.zero_add]
  cases s with
  | false => simp
  | true =>
    have hk : 0 < k := by simpa using h
    rw [if_pos ⟨rfl, by omega⟩, if_pos ⟨rfl, hk⟩, Int.pow_succ]
    generalize sg (fun i => m.getD i 0) 0 k = S at *
    have : (m.getD 0 0 : Int) * (2 ^ k * 2) = 2 * ((m.getD 0 0 : Int) * 2 ^ k) := by rw [← Int.mul_assoc, Int.mul_comm]
    rw [this]
    generalize (m.getD 0 0 : Int) * 2 ^ k = q at *
    generalize m.getD k 0 = b at *
    omega
theorem numZ_first (m : List Nat) : numZ m true 1 = -(m.getD 0 0 : Int) := by
  unfold numZ
  rw [if_pos ⟨rfl, by omega⟩]
  simp [sg]
  omega
theorem iv8_get (l : List Nat) (j : Nat) (h : j < l.length) : (iv8 l)[j]? = some (.int .i64 ((l.getD j 0 : Nat) : Int)) := by
  simp [iv8, List.getD_eq_getElem?_getD, List.getElem?_eq_getElem h]
set_option maxHeartbeats 1000000 in
theorem Number_any (m : List Nat) (s : Bool) (hb : ∀ b ∈ m, b < 2) (hl : m.length ≤ 48) (A : Option Addr) (c : Nat) (w : World) (hr : Rd w A (iv8 m)) :
    Calls Tryd.prog 59 #[.slice A m.length c, .bool s] w fun e w' => e = .returned (.int .i64 (numZ m s m.length)) ∧ w' = w := by
  have Hr := Lib.hid hr
  have Hbd := Lib.hid (numZ_bd hb s)
  have HgL := Lib.hid (getD_lt hb)
  clear hr hb
  go_enter Tryd.func59, Tryd.ntmps59
  go_wp2_with fail
  go_loop [5, 6] (fun nv iv => ∃ k : Nat, k ≤ m.length ∧ iv = .int .i64 (k : Int) ∧ nv = .int .i64 (numZ m s k)) (fun _ iv => m.length - (intOf iv).toNat)
  case atStart => exact ⟨0, by omega, rfl, by simp [numZ, sg]⟩
  case round =>
    obtain ⟨k, hk, rfl, rfl⟩ := hrel
    by_cases hkk : k < m.length
    · obtain ⟨b, o, rfl, hc⟩ := Hr.out k _ (iv8_get m k hkk)
      obtain ⟨bd1, bd2⟩ := Hbd.out k (by omega)
      have hbk := HgL.out k
      have hi1 : (k : Int) < m.length := by omega
      by_cases h0 : s = true ∧ k = 0
      · obtain ⟨rfl, rfl⟩ := h0
        have Hst := Lib.hid (numZ_first m)
        have hz : numZ m true 0 = 0 := by simp [numZ, sg]
        rw [hz]
        clear hz bd1 bd2
        simp only [Nat.add_zero] at hc
        generalize m.getD 0 0 = x at *
        go_wp2_with fail
        go_round
        case rel => exact ⟨1, by omega, rfl, by rw [Hst.out]⟩
        case measure => simp [intOf] <;> omega
      · have hs : s = false ∨ 0 < k := by
          cases s with
          | false => exact .inl rfl
          | true => right; rcases Nat.eq_zero_or_pos k with h | h; exact absurd ⟨rfl, h⟩ h0; exact h
        have Hst := Lib.hid (numZ_step m s k hs)
        generalize numZ m s k = n at *
        generalize m.getD k 0 = x at *
        rcases hs with rfl | hs
        · clear h0
          by_cases hk0 : k = 0
          · subst hk0
            simp only [Nat.add_zero] at hc
            go_wp2_with fail
            go_round
            case rel => exact ⟨1, by omega, rfl, by rw [Hst.out]⟩
            case measure => simp [intOf] <;> omega
          · have hk0' : ((k : Int) == 0) = false := by rw [beq_eq_false_iff_ne]; omega
            clear hk0
            go_wp2_with fail
            go_round
            case rel => exact ⟨k + 1, by omega, by go_num, by rw [Hst.out]⟩
            case measure => simp [intOf] <;> omega
        · have hk0' : ((k : Int) == 0) = false := by rw [beq_eq_false_iff_ne]; omega
          clear h0
          go_wp2_with fail
          go_round
          case rel => exact ⟨k + 1, by omega, by go_num, by rw [Hst.out]⟩
          case measure => simp [intOf] <;> omega
    · obtain rfl : k = m.length := by omega
      go_wp2_with fail
      go_ret
      exact ⟨rfl, rfl⟩
/-- What Number tells of the bits of bytes. -/
theorem numZ_u (f : Nat → Nat) (m : List Nat) (t : Nat) (h : ∀ i, i < m.length → m.getD i 0 = f (t + i)) : numZ m false m.length = (sg f t m.length : Nat) := by
  unfold numZ
  rw [if_neg (fun h => by cases h.1), Int.sub_zero]
  have key : ∀ n, n ≤ m.length → sg (fun i => m.getD i 0) 0 n = sg f t n := by
    intro n
    induction n with
    | zero => intro _; rfl
    | succ n ih => intro hn; rw [sg, sg, ih (by omega), Nat.zero_add, h n (by omega)]
  rw [key _ (Nat.le_refl _)]
theorem sg_top {f : Nat → Nat} (h : ∀ i, f i < 2) (t : Nat) : ∀ k, sg f t (k + 1) / 2 ^ k = f t
  | 0 => by simp [sg]
  | k + 1 => by
    have e := sg_top h t k
    have hb := h (t + (k + 1))
    rw [sg, Nat.pow_succ, Nat.mul_comm (2 ^ k) 2, ← Nat.div_div_eq_div_mul]
    rw [show (2 * sg f t (k + 1) + f (t + (k + 1))) / 2 = sg f t (k + 1) from by omega]
    exact e
theorem numZ_s (f : Nat → Nat) (hf : ∀ i, f i < 2) (m : List Nat) (t : Nat) (h : ∀ i, i < m.length → m.getD i 0 = f (t + i)) : numZ m true m.length = sgS f t m.length := by
  have h1 := numZ_u f m t h
  unfold numZ at h1 ⊢
  rw [if_neg (fun h => by cases h.1), Int.sub_zero] at h1
  rw [h1]
  unfold sgS
  rcases Nat.eq_zero_or_pos m.length with h0 | h0
  · rw [h0]; simp [sg]
  · obtain ⟨k, hk⟩ : ∃ k, m.length = k + 1 := ⟨m.length - 1, by omega⟩
    have h2 := sg_top hf t k
    have h3 : m.getD 0 0 = f t := by have := h 0 h0; simpa using this
    rw [hk, Nat.add_sub_cancel, h2, if_pos ⟨rfl, by omega⟩, h3]
    have h4 := hf t
    rcases (show f t = 0 ∨ f t = 1 by omega) with h5 | h5
    · rw [h5, if_neg (by omega)]; simp
    · rw [h5, if_pos (by omega)]; simp
end Go.Proofs.YtgohfbfdhdepnaaDoor

namespace Go.Proofs.YtgohfbfdhdepnaaDoor
open Go.RowKit

/-- The lowest bits of a number. -/
def loU (k : Int) (n : Nat) : Nat := (k % 2 ^ n).toNat
theorem loU_eq (k : Int) (n : Nat) : ((loU k n : Nat) : Int) = k % 2 ^ n := by
  have : 0 ≤ k % 2 ^ n := Int.emod_nonneg _ (Int.ne_of_gt (Int.pow_pos (by omega)))
  unfold loU; omega
theorem loU_lt (k : Int) (n : Nat) : loU k n < 2 ^ n := by
  have h1 := loU_eq k n
  have h2 : k % 2 ^ n < 2 ^ n := Int.emod_lt_of_pos _ (Int.pow_pos (by omega))
  have e : ((2 : Int) ^ n) = ((2 ^ n : Nat) : Int) := by simp
  rw [e] at h1 h2
  omega
theorem lo_bit (k : Int) (n i : Nat) (h : i < n) : (k / 2 ^ i) % 2 = ((loU k n / 2 ^ i % 2 : Nat) : Int) := by
  have h1 := loU_eq k n
  obtain ⟨d, hd⟩ : ∃ d, n = i + (d + 1) := ⟨n - i - 1, by omega⟩
  have hk := Int.mul_ediv_add_emod k (2 ^ n)
  rw [← h1] at hk
  have e : ((2 : Int) ^ n) = 2 ^ i * (2 * 2 ^ d) := by rw [hd, Int.pow_add, Int.pow_succ, Int.mul_comm (2 ^ d) 2]
  rw [e] at hk
  generalize loU k n = U at *
  generalize k / (2 ^ i * (2 * 2 ^ d)) = q at hk
  have e3 : ((U : Int) / 2 ^ i) = ((U / 2 ^ i : Nat) : Int) := by simp
  have e4 : k / 2 ^ i = (U : Int) / 2 ^ i + (2 * 2 ^ d) * q := by
    rw [← hk, Int.mul_assoc, Int.add_comm, Int.add_mul_ediv_left _ _ (Int.ne_of_gt (Int.pow_pos (by omega)))]
  rw [e4, e3, Int.mul_assoc]
  generalize (2 : Int) ^ d * q = z
  generalize U / 2 ^ i = y
  omega
theorem numZ_vb_u (U n : Nat) (h : U < 2 ^ n) : numZ (vb U n) false n = (U : Int) := by
  unfold numZ
  rw [if_neg (fun h => by cases h.1), Int.sub_zero]
  have hh := vb_part U n 0 n (by omega)
  rw [List.drop_zero, List.take_of_length_le (by rw [vb_length]; exact Nat.le_refl _), show n - 0 - n = 0 from by omega, Nat.pow_zero, Nat.div_one, Nat.mod_eq_of_lt h] at hh
  rw [hh]
theorem numZ_vb_s (U n : Nat) (h : U < 2 ^ n) : numZ (vb U n) true n = if 0 < n ∧ U / 2 ^ (n - 1) = 1 then (U : Int) - 2 ^ n else U := by
  have h1 := numZ_s (fun i => (vb U n).getD i 0) (fun i => getD_lt (vb_lt U n) i) (vb U n) 0 (fun i _ => by rw [Nat.zero_add])
  rw [vb_length] at h1
  rw [h1]
  unfold sgS
  have h2 := numZ_vb_u U n h
  unfold numZ at h2
  rw [if_neg (fun h => by cases h.1), Int.sub_zero] at h2
  rw [Int.ofNat_inj.1 h2]
/-- What Put tells. -/
def rpE (n k : Int) (s : Bool) : Int := if n < 0 ∨ 48 < n then 1 else if numZ (vb (loU k n.toNat) n.toNat) s n.toNat = k then 0 else 10
def rpB (bs : List Nat) (n k : Int) (s : Bool) : List Nat := if rpE n k s = 0 then bs ++ vb (loU k n.toNat) n.toNat else bs
theorem rpE_u (n k : Int) : rpE n k false = ptE n k := by
  unfold rpE ptE
  split
  · rfl
  · rw [numZ_vb_u _ _ (loU_lt k _), loU_eq]
    have hp : (0 : Int) < 2 ^ n.toNat := Int.pow_pos (by omega)
    by_cases h : k < 0 ∨ 2 ^ n.toNat ≤ k
    · rw [if_pos h, if_neg]
      intro e
      have h1 : 0 ≤ k % 2 ^ n.toNat := Int.emod_nonneg _ (Int.ne_of_gt hp)
      have h2 : k % 2 ^ n.toNat < 2 ^ n.toNat := Int.emod_lt_of_pos _ hp
      omega
    · rw [if_neg h, if_pos]
      exact Int.emod_eq_of_lt (by omega) (by omega)
theorem rpB_u (bs : List Nat) (n k : Int) : rpB bs n k false = ptB bs n k := by
  unfold rpB ptB
  rw [rpE_u]
  by_cases h : ptE n k = 0
  · rw [if_pos h, if_pos h]
    have h2 := h
    unfold ptE at h2
    split at h2
    · cases h2
    · split at h2
      · cases h2
      · have e : loU k n.toNat = k.toNat := by
          unfold loU
          rw [Int.emod_eq_of_lt (by omega) (by omega)]
        rw [e]
  · rw [if_neg h, if_neg h]
theorem sgn_core (m : Nat) (k : Int) : (if 0 < m + 1 ∧ loU k (m + 1) / 2 ^ (m + 1 - 1) = 1 then (loU k (m + 1) : Int) - 2 ^ (m + 1) else (loU k (m + 1) : Int)) = k ↔ ¬ (k < -2 ^ m ∨ 2 ^ m ≤ k) := by
  have ek : ((2 : Int) ^ m) = ((2 ^ m : Nat) : Int) := by simp
  have eq : ((2 : Int) ^ (m + 1)) = 2 * ((2 ^ m : Nat) : Int) := by rw [Int.pow_succ, ek, Int.mul_comm]
  have h1 := loU_eq k (m + 1)
  have hK : 0 < (2 : Nat) ^ m := Nat.pow_pos (by omega)
  rw [Nat.add_sub_cancel]
  rw [eq] at h1 ⊢
  rw [ek]
  generalize loU k (m + 1) = U at *
  clear ek eq
  generalize (2 : Nat) ^ m = K at *
  have hz0 : 0 ≤ k % (2 * (K : Int)) := Int.emod_nonneg _ (by omega)
  have hz1 : k % (2 * (K : Int)) < 2 * (K : Int) := Int.emod_lt_of_pos _ (by omega)
  have hd := Int.mul_ediv_add_emod k (2 * (K : Int))
  rw [← h1] at hz0 hz1
  have hU : U < 2 * K := by omega
  by_cases hc : U / K = 1
  · rw [if_pos ⟨by omega, hc⟩]
    have hUK : K ≤ U := by
      rcases Nat.lt_or_ge U K with h | h
      · rw [Nat.div_eq_of_lt h] at hc; cases hc
      · exact h
    constructor
    · intro e; omega
    · intro hr
      rcases (show k < 0 ∨ 0 ≤ k by omega) with hk | hk
      · have e : k % (2 * (K : Int)) = k + 2 * K := by
          rw [← Int.add_emod_right]
          exact Int.emod_eq_of_lt (by omega) (by omega)
        omega
      · have e : k % (2 * (K : Int)) = k := Int.emod_eq_of_lt hk (by omega)
        omega
  · rw [if_neg (fun h => hc h.2)]
    have hUK : U < K := by
      rcases Nat.lt_or_ge U K with h | h
      · exact h
      · exact absurd (Nat.div_eq_of_lt_le (by omega) (by omega)) hc
    constructor
    · intro e; omega
    · intro hr
      rcases (show k < 0 ∨ 0 ≤ k by omega) with hk | hk
      · have e : k % (2 * (K : Int)) = k + 2 * K := by
          rw [← Int.add_emod_right]
          exact Int.emod_eq_of_lt (by omega) (by omega)
        omega
      · have e : k % (2 * (K : Int)) = k := Int.emod_eq_of_lt hk (by omega)
        omega
theorem rpE_s (n k : Int) : rpE n k true = swE n k := by
  unfold rpE swE
  split
  · rfl
  · rename_i hn
    rw [numZ_vb_s _ _ (loU_lt k _)]
    obtain ⟨j, rfl⟩ : ∃ j : Nat, n = j := ⟨n.toNat, by omega⟩
    rw [Int.toNat_natCast]
    cases j with
    | zero =>
      have e0 : loU k 0 = 0 := by unfold loU; simp [Int.emod_one]
      by_cases h : k = 0
      · subst h; simp [e0]
      · have h' : ¬ (0 : Int) = k := fun e => h e.symm
        simp [e0, h, h']
    | succ m =>
      by_cases h : k < -2 ^ m ∨ 2 ^ m ≤ k
      · rw [if_neg (fun e => (sgn_core m k).1 e h), if_pos (.inr ⟨by omega, by simpa using h⟩)]
      · rw [if_pos ((sgn_core m k).2 h), if_neg]
        rintro (⟨h1, -⟩ | ⟨-, h1⟩)
        · omega
        · exact h (by simpa using h1)
theorem rpB_s (bs : List Nat) (n k : Int) : rpB bs n k true = swB bs n k := by
  unfold rpB swB
  rw [rpE_s]
  rfl
theorem iv8_one (l : List Nat) : ∀ u ∈ iv8 l, u.oneCell' = true := by
  intro u hu
  obtain ⟨x, -, rfl⟩ := List.mem_map.1 hu
  rfl
theorem vb_take_succ (U n j : Nat) (h : j < n) : (vb U n).take (j + 1) = (vb U n).take j ++ [U / 2 ^ (n - 1 - j) % 2] := by
  rw [List.take_succ_eq_append_getElem (by rw [vb_length]; exact h)]
  simp [vb]

def LPost (v : Value) (E : Int) (bs' : List Nat) (B : Nat) (w : World) (e : Ending) (w' : World) : Prop :=
  ∃ v', e = .returned (.tuple #[v', .int .i64 E]) ∧ w'.ownsRow B 3 1 v' bs'.length (iv8 bs') ∧ FrL v v' w w'
set_option maxRecDepth 100000 in
set_option maxHeartbeats 2000000 in
theorem RPut_any (v : Value) (bs : List Nat) (n k : Int) (s : Bool) (B : Nat) (w : World) (hown : w.ownsRow B 3 1 v bs.length (iv8 bs)) (hB : B ≤ w.heap.size) (hlen : bs.length ≤ 1000000000000) (hk1 : -9223372036854775808 ≤ k) (hk2 : k ≤ 9223372036854775807) :
    Calls Tryd.prog 38 #[v, .int .i64 n, .int .i64 k, .bool s] w (LPost v (rpE n k s) (rpB bs n k s) B w) := by
  have Hown := Lib.hid hown
  obtain ⟨A, c, rfl, hc, -, -, hnil⟩ := own_rd4 hown
  clear hown
  by_cases hn : n < 0 ∨ 48 < n
  · have hE : rpE n k s = 1 := by rw [rpE, if_pos hn]
    rw [rpB, hE, if_neg (by decide)]
    clear hE
    by_cases h1 : n < 0
    · clear hn
      go_enter Tryd.func38, Tryd.ntmps38
      go_wp2_with fail
      go_ret2
      exact ⟨_, rfl, Hown.out, FrL.refl _ _⟩
    · have h2 : n > 48 := by omega
      clear hn
      go_enter Tryd.func38, Tryd.ntmps38
      go_wp2_with fail
      go_ret2
      exact ⟨_, rfl, Hown.out, FrL.refl _ _⟩
  obtain ⟨q, rfl⟩ : ∃ q : Nat, n = q := ⟨n.toNat, by omega⟩
  have hE : rpE q k s = if numZ (vb (loU k q) q) s q = k then 0 else 10 := by rw [rpE, if_neg hn, Int.toNat_natCast]
  have hBt : rpB bs q k s = if numZ (vb (loU k q) q) s q = k then bs ++ vb (loU k q) q else bs := by
    rw [rpB, hE, Int.toNat_natCast]
    by_cases h : numZ (vb (loU k q) q) s q = k
    · rw [if_pos h, if_pos h, if_pos rfl]
    · rw [if_neg h, if_neg h, if_neg (by decide)]
  have HY : Hid (numZ (vb (loU k q) q) s q = k → rpE q k s = 0 ∧ rpB bs q k s = bs ++ vb (loU k q) q) := fun h => by rw [hE, hBt, if_pos h, if_pos h]; exact ⟨rfl, rfl⟩
  have HNo : Hid (numZ (vb (loU k q) q) s q ≠ k → rpE q k s = 10 ∧ rpB bs q k s = bs) := fun h => by rw [hE, hBt, if_neg h, if_neg h]; exact ⟨rfl, rfl⟩
  clear hE hBt
  generalize rpE q k s = E at *
  generalize rpB bs q k s = bs' at *
  have hq1 : ¬ (q : Int) < 0 := by omega
  have hq2 : ¬ (q : Int) > 48 := by omega
  have hq48 : q ≤ 48 := by omega
  clear hn
  have Hbit := Lib.hid (fun i h => lo_bit k q i h)
  generalize loU k q = U at *
  have HN := Lib.hid (fun A c W h => Number_any (vb U q) s (vb_lt U q) (by rw [vb_length]; exact hq48) A c W h)
  rw [vb_length] at HN
  have Hsucc := Lib.hid (fun j h => vb_take_succ U q j h)
  have Hful : Hid ((vb U q).take q = vb U q) := by show _ = _; exact List.take_of_length_le (by rw [vb_length]; exact Nat.le_refl _)
  have Hln := Lib.hid (vb_length U q)
  have Hnil := Lib.hid hnil
  clear hnil
  generalize numZ (vb U q) s q = Z at *
  go_enter Tryd.func38, Tryd.ntmps38
  go_wp2_with fail
  go_loopw [10, 11] (fun ov iv wr => ∃ j : Nat, j ≤ q ∧ iv = .int .i64 ((q : Int) - 1 - j) ∧ Hid (wr.ownsRow w.heap.size 3 1 ov j (iv8 ((vb U q).take j))) ∧ Hid (Below w.heap.size w wr)) (fun _ iv _ => (intOf iv + 1).toNat)
  case atStart => exact ⟨0, Nat.zero_le _, by simp, World.ownsRow_nil w w.heap.size _ 1, Below.refl _ _⟩
  case round =>
    obtain ⟨j, hj, rfl, Ho, Hb⟩ := hrel
    by_cases hjq : j < q
    · obtain ⟨r, hr⟩ : ∃ r, q - 1 - j = r := ⟨_, rfl⟩
      have hr1 : ((q : Int) - 1 - j) = (r : Int) := by omega
      have Hr : Hid (r + j + 1 = q) := by show _ = _; omega
      have Hs : Hid (iv8 ((vb U q).take (j + 1)) = iv8 ((vb U q).take j) ++ [.int .i64 (U / 2 ^ r % 2 : Nat)]) := by
        show _ = _
        rw [Hsucc.out j hjq, iv8_append, hr]; rfl
      have hb1 := Hbit.out r (by omega)
      have ha := i64_low (k / 2 ^ r) 1 (by omega)
      rw [show ((2 : Int) ^ 1) = 2 from rfl, hb1, show ((2 ^ 1 - 1 : Nat) : Int) = 1 from rfl] at ha
      generalize U / 2 ^ r % 2 = x at *
      rw [hr1]
      clear hb1 hr hr1
      have hbs := Hb.out.size
      have hmin : min r 64 = r := Nat.min_eq_left (by have := Hr.out; omega)
      have hr0 : (0 : Int) ≤ r := by omega
      have hwr : IntKind.i64.wrap ((r : Int) - 1) = (r : Int) - 1 := by rw [IntKind.wrap_i64]; have := Hr.out; omega
      have hj48 : j ≤ 48 := by omega
      go_wp2_with (at_builtin; refine app1 (w0 := w) rfl _ _ 65 rfl Tryd.underlying65 info_int1 rfl (by decide) rfl Ho.out (Nat.le_refl _) hbs Hb.out rfl rfl (one_int _ _) (by omega) (by unfold maxLen; omega) ?_; intro v1 w6 own1 hb6 hs6; have Hown1 := Lib.hid own1; have Hb6 := Lib.hid hb6; clear own1 hb6)
      go_roundw
      case rel => exact ⟨j + 1, by omega, by have := Hr.out; first | (congr 1; omega) | (simp; omega), by rw [Hs.out]; exact Hown1.out, Hb6.out⟩
      case measure => simp [intOf] <;> omega
    · obtain rfl : j = q := by omega
      rw [Hful.out] at Ho
      obtain ⟨A2, c2, rfl, hc2, -, hr2, hnil2⟩ := own_rd4 Ho.out
      have HN2 := Lib.hid (HN.out A2 c2 wr hr2)
      have Hr2 := Lib.hid hr2
      have Hn2 := Lib.hid (fun h => (hnil2 h).2)
      have Hov := Lib.hid (ownsRow_below Hown.out Hb.out)
      have hBr : B ≤ wr.heap.size := Nat.le_trans hB Hb.out.size
      have hm1 : ((j : Int) - 1 - j) = -1 := by omega
      rw [hm1]
      clear hr2 hnil2 Ho HN Hbit Hsucc hm1 hjq hj
      by_cases hZ : Z = k
      · have hzk : (Z != k) = false := by rw [hZ]; simp
        obtain ⟨rfl, rfl⟩ := HY.out hZ
        clear hZ HY HNo
        go_wp2_with fail
        refine HN2.out.mono ?_
        rintro e w2 ⟨rfl, rfl⟩
        go_wp2_with (at_builtin; refine appNg (n := bs.length) (m := j) (bytes := 8) rfl _ _ 65 rfl Tryd.underlying65 info_int1 rfl rfl Hov.out hBr rfl Hr2.out (by rw [iv8_length]; exact Hln.out) Hn2.out (iv8_one _) (by omega) (by unfold maxLen; omega) ?_; intro v3 w3 own3 fr3; have Hown3 := Lib.hid own3; have HF3 := Lib.hid fr3; clear own3 fr3)
        go_ret2
        exact ⟨v3, rfl, by rw [List.length_append, Hln.out, iv8_append]; exact Hown3.out, (FrL.of Hb.out).trans HF3.out⟩
      · have hzk : (Z != k) = true := by rw [bne_iff_ne]; exact hZ
        obtain ⟨rfl, rfl⟩ : E = 10 ∧ bs = bs' := ⟨(HNo.out hZ).1, (HNo.out hZ).2.symm⟩
        clear hZ HY HNo
        have HF := Lib.hid (FrL.of (v := .slice A bs.length c) Hb.out)
        go_wp2_with fail
        refine HN2.out.mono ?_
        rintro e w2 ⟨rfl, rfl⟩
        go_wp2_with fail
        go_ret2
        exact ⟨_, rfl, Hov.out, HF.out⟩
end Go.Proofs.YtgohfbfdhdepnaaDoor

namespace Go.Proofs.YtgohfbfdhdepnaaDoor
open Go.RowKit

theorem zb_snoc (j : Nat) : zb (j + 1) = zb j ++ [0] := by rw [← zb_add]; rfl
set_option maxRecDepth 100000 in
set_option maxHeartbeats 2000000 in
theorem RBytesL_any (bs : List Nat) (hb : ∀ b ∈ bs, b < 2) (A : Option Addr) (c : Nat) (w : World) (hr : Rd w A (iv8 bs)) (hl : bs.length ≤ 4000000) :
    Calls Tryd.prog 41 #[.slice A bs.length c] w fun e w' => ∃ v, e = .returned v ∧ Hid (w'.ownsRow w.heap.size 5 1 v (pkL bs).length (bv (pkL bs))) ∧ Below w.heap.size w w' := by
  have Hr := Lib.hid hr
  have Hfin : Hid (bv (pkL bs) = pkN bs ((bs.length + 7) / 8)) := bv_pkL bs hb
  have Hpl := Lib.hid (pkL_length bs)
  have HgL := Lib.hid (getD_lt hb)
  have Hsg := Lib.hid (fun t n => sg_lt (getD_lt hb) t n)
  have Hout := Lib.hid (getD_out bs)
  have Hsn : Hid (∀ d, pkN bs (d + 1) = pkN bs d ++ [.int .u8 (sg (fun t => bs.getD t 0) (8 * d) 8 : Nat)]) := by
    intro d
    simp [pkN, List.range_succ, byteAt]
  have HG := Lib.hid (fun W (h : Rd W A (iv8 bs)) j (hj : j < bs.length) => h j _ (iv8_get bs j hj))
  clear hr hb
  go_enter Tryd.func41, Tryd.ntmps41
  go_wp2_with fail
  go_loopw [3, 4] (fun ov iv wr => ∃ d : Nat, 8 * d < bs.length + 8 ∧ iv = .int .i64 ((8 * d : Nat) : Int) ∧ Hid (wr.ownsRow w.heap.size 5 1 ov d (pkN bs d)) ∧ Hid (Below w.heap.size w wr)) (fun _ iv _ => (bs.length + 8 - intOf iv).toNat)
  case atStart => exact ⟨0, by omega, rfl, World.ownsRow_nil w w.heap.size _ 1, Below.refl _ _⟩
  case round =>
    obtain ⟨d, hd, rfl, Ho, Hb⟩ := hrel
    by_cases hdl : 8 * d < bs.length
    · have hdl2 : ((8 * d : Nat) : Int) < bs.length := by omega
      obtain ⟨D, hD⟩ : ∃ D, 8 * d = D := ⟨_, rfl⟩
      have HD := Lib.hid hD
      have Hsd := Lib.hid (Hsn.out d)
      have hsg8 := Hsg.out D 8
      rw [hD] at Hsd hdl2 hd hdl ⊢
      clear hD
      go_wp2_with fail
      go_loop [5, 6] (fun nv kv => ∃ k : Nat, k ≤ 8 ∧ kv = .int .i64 (k : Int) ∧ nv = .int .i64 (sg (fun t => bs.getD t 0) D k : Nat)) (fun _ kv => (8 - intOf kv).toNat)
      case atStart => exact ⟨0, by omega, rfl, rfl⟩
      case round =>
        obtain ⟨k, hk, rfl, rfl⟩ := hrel
        by_cases hk8 : k < 8
        · have Hst : Hid (sg (fun t => bs.getD t 0) D (k + 1) = 2 * sg (fun t => bs.getD t 0) D k + bs.getD (D + k) 0) := rfl
          have hlt := Hsg.out D k
          have hlt8 : (2 : Nat) ^ k ≤ 2 ^ 8 := Nat.pow_le_pow_right (by omega) hk
          have hS : sg (fun t => bs.getD t 0) D k < 256 := Nat.lt_of_lt_of_le hlt hlt8
          clear hlt hlt8
          generalize sg (fun t => bs.getD t 0) D k = S at *
          by_cases hin : D + k < bs.length
          · obtain ⟨b, o, rfl, hc⟩ := HG.out wr (Hr.out.below Hb.out) (D + k) hin
            have hx := HgL.out (D + k)
            have hin2 : (D : Int) + k < bs.length := by omega
            generalize bs.getD (D + k) 0 = x at *
            have e1 : ((D : Int) + k).toNat = D + k := by omega
            go_wp2_with fail
            go_round
            case rel => exact ⟨k + 1, by omega, by go_num, by rw [Hst.out]; go_num⟩
            case measure => simp [intOf] <;> omega
          · have hx : bs.getD (D + k) 0 = 0 := Hout.out _ (by omega)
            rw [hx] at Hst
            have hin2 : ¬ (D : Int) + k < bs.length := by omega
            clear hx hin
            go_wp2_with fail
            go_round
            case rel => exact ⟨k + 1, by omega, by go_num, by rw [Hst.out]; go_num⟩
            case measure => simp [intOf] <;> omega
        · obtain rfl : k = 8 := by omega
          generalize sg (fun t => bs.getD t 0) D 8 = S at *
          have hw8 : IntKind.u8.wrap (S : Int) = S := wrap_u8_nat S (by omega)
          have hbs := Hb.out.size
          have hdm : d ≤ 4000000 := by have := HD.out; omega
          go_wp2_with (at_builtin; refine app1 (w0 := w) (n := d) (bytes := 1) rfl _ _ 28 rfl Tryd.underlying28 info_u8 rfl (by decide) rfl Ho.out (Nat.le_refl _) hbs Hb.out rfl rfl (one_u8 _) (by omega) (by unfold maxLen; omega) ?_; intro v1 w6 own1 hb6 hs6; have Hown1 := Lib.hid own1; have Hb6 := Lib.hid hb6; clear own1 hb6)
          go_roundw
          case rel => exact ⟨d + 1, by have := HD.out; omega, by have := HD.out; first | (congr 1; omega) | (simp; omega), by rw [Hsd.out]; exact Hown1.out, Hb6.out⟩
          case measure => simp [intOf] <;> omega
    · have hdd : d = (bs.length + 7) / 8 := by omega
      have hdl2 : ¬ ((8 * d : Nat) : Int) < bs.length := by omega
      have Hdd := Lib.hid hdd
      clear hdd
      go_wp2_with fail
      go_ret
      refine ⟨_, rfl, ?_, Hb.out⟩
      rw [Hpl.out, Hfin.out, ← Hdd.out]
      exact Ho.out

/-- The bits of bytes, one by one. -/
def by8 (l : List UInt8) : List Nat := l.flatMap fun x => vb x.toNat 8
theorem by8_length (l : List UInt8) : (by8 l).length = 8 * l.length := by
  induction l with
  | nil => rfl
  | cons x l ih => unfold by8 at *; rw [List.flatMap_cons, List.length_append, ih, vb_length, List.length_cons]; omega
theorem by8_append (l m : List UInt8) : by8 (l ++ m) = by8 l ++ by8 m := by simp [by8]
theorem by8_snoc (l : List UInt8) (j : Nat) (h : j < l.length) : by8 (l.take (j + 1)) = by8 (l.take j) ++ vb (l[j]).toNat 8 := by
  rw [List.take_succ_eq_append_getElem h, by8_append]; simp [by8]
theorem put8 (bs : List Nat) (x : Nat) (h : x < 256) : ptE 8 x = 0 ∧ ptB bs 8 x = bs ++ vb x 8 := by
  have e : ptE 8 x = 0 := by
    rw [ptE, if_neg (by omega), if_neg]
    show ¬ ((x : Int) < 0 ∨ (2 : Int) ^ 8 ≤ x)
    omega
  exact ⟨e, by rw [ptB, if_pos e, Int.toNat_natCast]; rfl⟩
set_option maxRecDepth 100000 in
set_option maxHeartbeats 2000000 in
theorem AppendW_any (R : Nat) (bs : List Nat) (u : Value) (ls : List (List UInt8)) (vs : List Value) (A : Option Addr) (c : Nat) (w : World) (hW : Wtr w R bs u) (hvl : vs.length = ls.length)
    (hv : ∀ W, Fr (WS R u) w W → Rd W A vs ∧ ∀ (j : Nat) (x : Value) (y : List UInt8), vs[j]? = some x → ls[j]? = some y → BS W x y) (hlen : bs.length + 8 * ls.flatten.length ≤ 100000000000) (hll : ls.length ≤ 1000000000000) :
    Calls Tryd.prog 28 #[.pointer (some ⟨R, 0, none⟩), .slice A ls.length c] w fun e w' => e = .returned (.tuple #[]) ∧ ∃ u', Wtr w' R (bs ++ by8 ls.flatten) u' ∧ FrW R u u' w w' := by
  have HW := Lib.hid hW
  have HV := Lib.hid hv
  have Hvl := Lib.hid hvl
  have Hlen := Lib.hid hlen
  clear hW hv hvl hlen
  go_enter Tryd.func28, Tryd.ntmps28
  go_wp2_with fail
  go_loopw [10] (fun iv wr => ∃ (i : Nat) (u' : Value), i ≤ ls.length ∧ iv = .int .i64 (i : Int) ∧ Hid (Wtr wr R (bs ++ by8 (ls.take i).flatten) u') ∧ Hid (FrW R u u' w wr)) (fun iv _ => (ls.length - intOf iv).toNat)
  case atStart => exact ⟨0, u, by omega, rfl, by show Wtr _ _ _ _; simpa [by8] using HW.out, FrW.refl _ _ _⟩
  case round =>
    clear HW
    obtain ⟨i, u1, hi, rfl, HW1, HF1⟩ := hrel
    by_cases hil : i < ls.length
    · have hil2 : (i : Int) < ls.length := by omega
      have hiv : i < vs.length := by have := Hvl.out; omega
      obtain ⟨hA, hB⟩ := HV.out wr HF1.out.fr
      obtain ⟨b, o, rfl, hc⟩ := hA.at_ hiv
      obtain ⟨A1, c1, e1, hc1, -⟩ := hB i vs[i] ls[i] (List.getElem?_eq_getElem hiv) (List.getElem?_eq_getElem hil)
      have HV2 : Hid (∀ W, Fr (WS R u) w W → Rd W A1 (bv ls[i])) := by
        intro W hW
        obtain ⟨A2, c2, e2, -, hr2⟩ := (HV.out W hW).2 i vs[i] ls[i] (List.getElem?_eq_getElem hiv) (List.getElem?_eq_getElem hil)
        rw [e1] at e2
        injection e2 with e3 e4 e5
        rw [e3]; exact hr2
      rw [e1] at hc
      have Hti : Hid (bs ++ by8 (ls.take (i + 1)).flatten = bs ++ by8 (ls.take i).flatten ++ by8 ls[i]) := by
        show _ = _
        rw [List.take_succ_eq_append_getElem hil, List.flatten_append, by8_append]; simp
      have Hlm : Hid ((bs ++ by8 (ls.take i).flatten).length + 8 * ls[i].length ≤ 100000000000) := by
        show _ ≤ _
        have h1 : ls.flatten = (ls.take i).flatten ++ (ls[i] ++ (ls.drop (i + 1)).flatten) := by
          have : ls = ls.take i ++ (ls[i] :: ls.drop (i + 1)) := by rw [← List.drop_eq_getElem_cons hil, List.take_append_drop]
          have h2 := congrArg List.flatten this
          rw [h2, List.flatten_append, List.flatten_cons]
        have h3 := congrArg List.length h1
        have h4 := Hlen.out
        rw [List.length_append, by8_length]
        rw [List.length_append, List.length_append] at h3
        omega
      clear hA hB e1
      generalize ls[i] = lb at *
      have Hlb : Hid (lb.length ≤ 100000000000) := by show _ ≤ _; have := Hlm.out; omega
      have hlb := Hlb.out
      generalize bs ++ by8 (ls.take i).flatten = b1 at *
      go_wp2_with fail
      go_loopw [16] (fun kv wr => ∃ (k : Nat) (u' : Value), k ≤ lb.length ∧ kv = .int .i64 (k : Int) ∧ Hid (Wtr wr R (b1 ++ by8 (lb.take k)) u') ∧ Hid (FrW R u u' w wr)) (fun kv _ => (lb.length - intOf kv).toNat)
      case atStart => exact ⟨0, u1, by omega, rfl, by show Wtr _ _ _ _; simpa [by8] using HW1.out, HF1.out⟩
      case round =>
        clear HW1 HF1
        obtain ⟨k, u2, hk, rfl, HW2, HF2⟩ := hrel
        by_cases hkl : k < lb.length
        · have hkl2 : (k : Int) < lb.length := by omega
          obtain ⟨b2, o2, rfl, hc2⟩ := (HV2.out wr HF2.out.fr).at_ (j := k) (by rw [bv_length]; exact hkl)
          have e2 := bv_get lb k hkl
          rw [List.getElem?_eq_getElem (by rw [bv_length]; exact hkl)] at e2
          rw [Option.some.inj e2] at hc2
          clear e2
          have Hst : Hid (b1 ++ by8 (lb.take (k + 1)) = b1 ++ by8 (lb.take k) ++ vb (lb[k]).toNat 8) := by show _ = _; rw [by8_snoc lb k hkl, List.append_assoc]
          have hx := lb[k].toNat_lt
          have Hle : Hid ((b1 ++ by8 (lb.take k)).length + 48 ≤ 1000000000000) := by
            show _ ≤ _
            rw [List.length_append, by8_length, List.length_take]
            have := Hlm.out
            omega
          generalize lb[k].toNat = x at *
          generalize b1 ++ by8 (lb.take k) = bk at *
          have HP := Lib.hid (Put_any R bk u2 8 x wr HW2.out Hle.out)
          rw [(put8 bk x hx).1, (put8 bk x hx).2] at HP
          go_wp2_with fail
          refine HP.out.mono ?_
          rintro e w3 ⟨rfl, u3, hW3, f3⟩
          have HW3 := Lib.hid hW3
          have HF3 := Lib.hid (HF2.out.trans f3)
          clear hW3 f3 HP
          go_wp2_with fail
          go_roundw
          case rel => exact ⟨k + 1, u3, by omega, by go_num, by rw [Hst.out]; exact HW3.out, HF3.out⟩
          case measure => simp [intOf] <;> omega
        · obtain rfl : k = lb.length := by omega
          rw [List.take_length] at HW2
          go_wp2_with fail
          go_roundw
          case rel => exact ⟨i + 1, u2, by omega, by go_num, by rw [Hti.out]; exact HW2.out, HF2.out⟩
          case measure => simp [intOf] <;> omega
    · obtain rfl : i = ls.length := by omega
      rw [List.take_length] at HW1
      go_wp2_with fail
      exact bodyPost_end (v := .tuple #[]) (by simp [results, Tryd.results28, go_sem]) rfl ⟨rfl, u1, HW1.out, HF1.out⟩
end Go.Proofs.YtgohfbfdhdepnaaDoor

namespace Go.Proofs.YtgohfbfdhdepnaaDoor
open Go.RowKit

/-- A Writer of the call's own. -/
structure St (w0 W : World) (R : Nat) (bs : List Nat) (k : Nat) : Prop where
  wtr : ∃ u, Wtr W R bs u
  blw : Below w0.heap.size w0 W
  le : w0.heap.size ≤ R
  len : bs.length ≤ k
theorem Put_st {w0 W : World} {R k : Nat} {bs : List Nat} (H : St w0 W R bs k) (n v : Nat) (hv : v < 2 ^ n) (hn : n ≤ 48) (hk : k ≤ 1000) :
    Calls Tryd.prog 25 #[.pointer (some ⟨R, 0, none⟩), .int .i64 n, .int .i64 v] W fun e w' => (∃ q, e = .returned q) ∧ St w0 w' R (bs ++ vb v n) (k + n) := by
  obtain ⟨u, hW⟩ := H.wtr
  have hl := H.len
  have e : ptE n v = 0 := by
    have hp : ((2 : Int) ^ n) = ((2 ^ n : Nat) : Int) := by simp
    rw [ptE, if_neg (by omega), if_neg]
    rw [Int.toNat_natCast, hp]
    intro h
    rcases h with h | h
    · omega
    · exact absurd (Int.ofNat_le.1 h) (Nat.not_le.2 hv)
  have hB : ptB bs n v = bs ++ vb v n := by rw [ptB, if_pos e, Int.toNat_natCast, Int.toNat_natCast]
  refine (Put_any R bs u n v W hW (by omega)).mono ?_
  rintro e w' ⟨rfl, u', h1, h2⟩
  rw [hB] at h1
  exact ⟨⟨_, rfl⟩, ⟨u', h1⟩, h2.below H.blw hW H.le, H.le, by rw [List.length_append, vb_length]; omega⟩
theorem Wtr.lt {w : World} {R : Nat} {bs : List Nat} {u : Value} (h : Wtr w R bs u) : ∀ k, WS R u k → k < w.heap.size := by
  intro k hk
  rcases hk with rfl | hk
  · exact (Array.getElem?_eq_some_iff.1 h.row).1
  · exact (h.own.lt k hk).2
theorem own_BS {w : World} {base n : Nat} {e : TypeId} {v : Value} {l : List UInt8} (h : w.ownsRow base e 1 v n (bv l)) (hn : n = l.length) : BS w v l := by
  obtain ⟨A, c, rfl, hc, hr⟩ := own_rd h
  subst hn
  exact ⟨A, c, rfl, hc, hr⟩
theorem Append_st {w0 W W1 : World} {R k : Nat} {bs : List Nat} (H : St w0 W R bs k) (hb : Below W.heap.size W W1) (l : List UInt8) (v : Value) (ho : W1.ownsRow W.heap.size 5 1 v l.length (bv l)) (hk : k ≤ 1000) (hl : l.length ≤ 100) :
    Calls Tryd.prog 28 #[.pointer (some ⟨R, 0, none⟩), .slice (some ⟨W1.heap.size, 0, none⟩) 1 1] (W1.alloc (.cells #[v] 28)) fun e w' => (∃ q, e = .returned q) ∧ St w0 w' R (bs ++ by8 l) (k + 8 * l.length) := by
  obtain ⟨u, hW⟩ := H.wtr
  have hlen := H.len
  have hb2 : Below W.heap.size W (W1.alloc (.cells #[v] 28)) := bal hb _
  have hW2 := hW.below hb2
  have ho2 := ho.alloc (.cells #[v] 28)
  have hlt := hW.lt
  have hsz := hb.size
  have hb3 : Below w0.heap.size w0 (W1.alloc (.cells #[v] 28)) := bnext H.blw hb2
  have hrow : (W1.alloc (.cells #[v] 28)).heap[W1.heap.size]? = some (.cells #[v] 28 (0, 0)) := heap_alloc_last W1 _
  refine (AppendW_any R bs u [l] [v] (some ⟨W1.heap.size, 0, none⟩) 1 _ hW2 rfl ?_ ?_ (by show 1 ≤ _; omega)).mono ?_
  · intro W' f
    refine ⟨rd_row (f.row hrow (fun h => by have := hlt _ h; omega)) _ rfl, ?_⟩
    have ho3 := own_fr ho2 f (fun k hk h => by have h1 := (ho.lt k hk).1; have h2 := hlt _ h; omega)
    intro j x y hx hy
    cases j with
    | zero =>
      simp at hx hy
      subst hx hy
      exact own_BS ho3 rfl
    | succ j => simp at hx
  · simp only [List.flatten_cons, List.flatten_nil, List.append_nil]; omega
  · rintro e w' ⟨rfl, u', h1, h2⟩
    simp only [List.flatten_cons, List.flatten_nil, List.append_nil] at h1
    exact ⟨⟨_, rfl⟩, ⟨u', h1⟩, h2.below hb3 hW2 H.le, H.le, by rw [List.length_append, by8_length]; omega⟩
theorem Bytes_st {w0 W : World} {R k : Nat} {bs : List Nat} (H : St w0 W R bs k) (hk : k ≤ 1000) :
    Calls Tryd.prog 30 #[.pointer (some ⟨R, 0, none⟩)] W fun e w' => ∃ v, e = .returned v ∧ Hid (w'.ownsRow W.heap.size 5 1 v (pkL bs).length (bv (pkL bs))) ∧ Below W.heap.size W w' := by
  obtain ⟨u, hW⟩ := H.wtr
  have hl := H.len
  obtain ⟨A, c, rfl, -, -, hr, hn⟩ := own_rd4 hW.own
  rw [← bv_pkL bs hW.bit] at hr
  rw [← pkL_length] at hn
  have HC := Lib.hid (clone_any (pkL bs) A c W hr (by rw [pkL_length]; omega) hn)
  have h1 := hW.c1
  rw [← pkL_length] at h1
  clear hW hr hn H
  go_enter Tryd.func30, Tryd.ntmps30
  go_wp2_with fail
  refine HC.out.mono ?_
  rintro e w1 ⟨v, rfl, Hown, hb⟩
  go_wp2_with fail
  go_ret
  exact ⟨_, rfl, Hown, hb⟩
theorem New_st {w0 W : World} (hb : Below w0.heap.size w0 W) :
    Calls Tryd.prog 24 #[] W fun e w' => ∃ R, e = .returned (.pointer (some ⟨R, 0, none⟩)) ∧ St w0 w' R [] 0 := by
  refine (NewWriter_any W).mono ?_
  rintro e w' ⟨R, rfl, h1, h2, h3, h4⟩
  exact ⟨R, rfl, ⟨_, h1⟩, bnext hb h4, Nat.le_trans hb.size h2, by simp⟩

/-- A number's code as bytes. -/
def codB (n : Nat) : List UInt8 := (C3.codeN n).map UInt8.ofNat
theorem codeN_lt (n : Nat) (hn : n < 68719476736) : ∀ x ∈ C3.codeN n, x < 256 := by
  intro x hx
  have hs := C3.szN_pos n
  by_cases h1 : C3.szN n = 1
  · unfold C3.codeN at hx
    rw [if_pos h1] at hx
    simp at hx
    subst hx
    have : x < 128 := by
      unfold C3.szN at h1; (repeat' split at h1) <;> omega
    omega
  · have hf := (C3.first_eq n hn h1).2
    unfold C3.codeN at hx
    rw [if_neg h1] at hx
    rcases List.mem_cons.1 hx with rfl | hx
    · exact hf
    · obtain ⟨j, -, rfl⟩ := List.mem_map.1 hx
      unfold C3.restV; omega
theorem bv_codB (n : Nat) (hn : n < 68719476736) : bv (codB n) = C3.nv8 (C3.codeN n) := by
  unfold bv codB C3.nv8
  rw [List.map_map]
  refine List.map_congr_left fun x hx => ?_
  show Value.int .u8 _ = Value.int .u8 _
  rw [UInt8.toNat_ofNat', Nat.mod_eq_of_lt (codeN_lt n hn x hx)]
theorem codB_length (n : Nat) : (codB n).length = C3.szN n := by simp [codB, C3.codeN_length]
theorem cput_any (n : Nat) (hn : n < 68719476736) (w : World) (ht : HTabs w) :
    Calls Tryd.prog 27 #[.int .i64 n] w fun e w' => ∃ v, e = .returned (.tuple #[v, .int .i64 0]) ∧ Hid (w'.ownsRow w.heap.size 5 1 v (codB n).length (bv (codB n))) ∧ Below w.heap.size w w' := by
  rw [codB_length, bv_codB n hn]
  exact C3.put_ok n hn w ht.lim
end Go.Proofs.YtgohfbfdhdepnaaDoor
