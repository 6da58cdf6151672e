/-
  jetsamref01.Bits: the walk.
-/
import Derived.Test.YtgohfbfdhdepnaaDoorAwake01
namespace Go.Proofs.YtgohfbfdhdepnaaDoor
open Go.RowKit

/-- Bits as values. -/
def iv8 (l : List Nat) : List Value := l.map fun (x : Nat) => Value.int .i64 (x : Int)
theorem iv8_append (l m : List Nat) : iv8 (l ++ m) = iv8 l ++ iv8 m := by simp [iv8]
theorem iv8_length (l : List Nat) : (iv8 l).length = l.length := by simp [iv8]
/-- The bits of bytes. -/
def bitL (l : List UInt8) (m : Nat) : List Nat := (List.range m).map (bitAt l)
theorem bitL_length (l : List UInt8) (m : Nat) : (bitL l m).length = m := by simp [bitL]
theorem bitL_succ (l : List UInt8) (m : Nat) : bitL l (m + 1) = bitL l m ++ [bitAt l m] := by simp [bitL, List.range_succ]
theorem info_int1 : (Tryd.prog.info? 3).map (fun i => (i.zero, i.size, i.bytes)) = some (some (.int .i64 0), 1, 8) := by kernel_rfl

set_option maxRecDepth 100000 in
set_option maxHeartbeats 2000000 in
theorem RBits_any (l : List UInt8) (A : Option Addr) (c : Nat) (w : World) (hr : Rd w A (bv l)) (hl : l.length ≤ 1000000) :
    Calls Tryd.prog 39 #[.slice A l.length c] w fun e w' => ∃ v, e = .returned v ∧ Hid (w'.ownsRow w.heap.size 3 1 v (8 * l.length) (iv8 (bitL l (8 * l.length)))) ∧ Below w.heap.size w w' := by
  have Hr := Lib.hid hr
  clear hr
  go_enter Tryd.func39, Tryd.ntmps39
  go_wp2_with fail
  go_loopw [3, 4] (fun v iv wr => ∃ i : Nat, i ≤ l.length ∧ iv = .int .i64 (i : Int) ∧ Hid (wr.ownsRow w.heap.size 3 1 v (8 * i) (iv8 (bitL l (8 * i)))) ∧ Hid (Below w.heap.size w wr)) (fun _ iv _ => l.length - (intOf iv).toNat)
  case atStart => exact ⟨0, by omega, rfl, World.ownsRow_nil w w.heap.size _ 1, Below.refl _ _⟩
  case round =>
    obtain ⟨i, hi, rfl, Hv, Hb⟩ := hrel
    by_cases hii : i < l.length
    · have hx := (l.getD i 0).toNat_lt
      have HRd := Lib.hid (fun (W : World) (hW : Below w.heap.size w W) => (Hr.out.below hW) i (.int .u8 (l.getD i 0).toNat) (by rw [bv_get l i hii]; simp [List.getD_eq_getElem?_getD, List.getElem?_eq_getElem hii]))
      have HBt : Hid (∀ q, q < 8 → bitAt l (8 * i + q) = (l.getD i 0).toNat / 2 ^ (7 - q) % 2) := by
        intro q hq
        rw [bitAt, show (8 * i + q) / 8 = i from by omega, show (8 * i + q) % 8 = q from by omega]
      generalize (l.getD i 0).toNat = x at *
      go_wp2_with fail
      go_loopw [3, 5] (fun v kv wr => ∃ q m : Nat, q ≤ 8 ∧ kv = .int .i64 (7 - (q : Int)) ∧ Hid (8 * i + q = m) ∧ Hid (wr.ownsRow w.heap.size 3 1 v m (iv8 (bitL l m))) ∧ Hid (Below w.heap.size w wr)) (fun _ kv _ => (intOf kv + 1).toNat)
      case atStart => exact ⟨0, 8 * i, by omega, rfl, rfl, Hv.out, Hb.out⟩
      case round =>
        clear Hv Hb
        obtain ⟨q, m, hq, rfl, Hm, Hv, Hb⟩ := hrel
        by_cases hqq : q < 8
        · obtain ⟨b, o, rfl, hc⟩ := HRd.out _ Hb.out
          obtain ⟨r, hr⟩ : ∃ r, 7 - q = r := ⟨_, rfl⟩
          have hr8 : (7 : Int) - q = (r : Int) := by omega
          have Hbit := Lib.hid (HBt.out q hqq)
          rw [hr, Hm.out] at Hbit
          have Hs : Hid (iv8 (bitL l (m + 1)) = iv8 (bitL l m) ++ [.int .i64 (bitAt l m : Nat)]) := by show _ = _; rw [bitL_succ, iv8_append]; rfl
          generalize bitAt l m = B at *
          have h6 : x / 2 ^ r ≤ x := Nat.div_le_self _ _
          have e2 : ((x : Int) / 2 ^ r) = ((x / 2 ^ r : Nat) : Int) := by simp
          have ha := i64_and_nat (x / 2 ^ r) 1 (by omega) (by omega)
          rw [Nat.and_one_is_mod, ← Hbit.out] at ha
          have ha1 : bits .and .i64 ((x : Int) / 2 ^ r) 1 = (B : Int) := by rw [e2]; exact ha
          have ha2 : bits .and .i64 (wrap64 ((x : Int) / 2 ^ r)) 1 = (B : Int) := by rw [e2, wrap_nat _ (by omega)]; exact ha
          have hm9 : m ≤ 8000000 := by rw [← Hm.out]; omega
          have hbs := Hb.out.size
          have hmin : min r 64 = r := Nat.min_eq_left (by omega)
          have hr0 : (0 : Int) ≤ r := by omega
          have hwr : IntKind.i64.wrap ((r : Int) - 1) = (r : Int) - 1 := by rw [IntKind.wrap_i64]; omega
          clear h6 e2 ha
          go_wp2_with (at_builtin; refine app1 (w0 := w) rfl _ _ 65 rfl Tryd.underlying65 info_int1 rfl (by decide) rfl Hv.out (Nat.le_refl _) hbs Hb.out rfl rfl (one_int _ _) (by omega) (by unfold maxLen; omega) ?_; intro v1 w6 own1 hb6 hs6; have Hown1 := Lib.hid own1; have Hb6 := Lib.hid hb6; clear own1 hb6)
          go_roundw
          case rel => exact ⟨q + 1, m + 1, by omega, by first | (congr 1; omega) | (simp; omega), by show _ = _; rw [← Hm.out]; rfl, by rw [Hs.out]; exact Hown1.out, Hb6.out⟩
          case measure => simp [intOf] <;> omega
        · obtain rfl : q = 8 := by omega
          have hm8 : 8 * (i + 1) = m := by have := Hm.out; omega
          go_wp2_with fail
          go_roundw
          case rel => exact ⟨i + 1, by omega, by go_num, by rw [hm8]; exact Hv.out, Hb.out⟩
          case measure => simp [intOf] <;> omega
    · obtain rfl : i = l.length := by omega
      go_wp2_with fail
      go_ret
      exact ⟨_, rfl, Hv.out, Hb.out⟩
end Go.Proofs.YtgohfbfdhdepnaaDoor
