/-
  coded.Put: a number's code.
-/
import Derived.Test.YtgohfbfdhdepnaaDoorCoded
namespace Go.Proofs.YtgohfbfdhdepnaaDoor.C3
open Go.RowKit

theorem info_u8 : (Tryd.prog.info? 5).map (fun i => (i.zero, i.size, i.bytes)) = some (some (.int .u8 0), 1, 1) := by kernel_rfl
theorem one_u8 (n : Int) : ∀ u ∈ (#[Value.int .u8 n]).toList, u.oneCell' = true := one_int _ _
theorem ownsRow_one (w : World) (base : Nat) (hb : base ≤ w.heap.size) (e : TypeId) (v : Value) : (w.alloc (.cells #[v] e)).ownsRow base e 1 (.slice (some ⟨w.heap.size, 0, none⟩) 1 1) 1 [v] :=
  ⟨rfl, .inr ⟨w.heap.size, 1, #[v], rfl, hb, heap_alloc_new w _, Nat.le_refl _, by decide, rfl, rfl⟩⟩

theorem ownsRow_less {w : World} {b b' : Nat} {e : TypeId} {size n : Nat} {v : Value} {xs : List Value} (h : w.ownsRow b e size v n xs) (hb : b' ≤ b) : w.ownsRow b' e size v n xs := by
  refine ⟨h.1, ?_⟩
  rcases h.2 with h | ⟨g, cap, cur, h1, h2, h3⟩
  · exact .inl h
  · exact .inr ⟨g, cap, cur, h1, by omega, h3⟩

set_option maxRecDepth 100000 in
set_option maxHeartbeats 800000 in
theorem put_ok (n : Nat) (hn : n < 68719476736) (w : World) (ht : TabAt w) :
    Calls Tryd.prog 27 #[.int .i64 n] w fun e w' => ∃ v, e = .returned (.tuple #[v, .int .i64 0]) ∧ Hid (w'.ownsRow w.heap.size 5 1 v (szN n) (nv8 (codeN n))) ∧ Below w.heap.size w w' := by
  have Ht := Lib.hid ht; clear ht
  have hs := szN_pos n
  go_enter Tryd.func27, Tryd.ntmps27
  go_wp2_with fail
  refine (len_ok n hn _ (Ht.out.below (by repeat (first | exact Below.refl _ _ | assumption | refine below_drewN ?_ _ | refine Below.drew ?_ | refine Below.alloc ?_ (Nat.le_refl _) _ | refine bal ?_ _ | refine bnext ?_ (by assumption))))).mono ?_
  rintro e w1 ⟨rfl, rfl⟩
  by_cases h1 : szN n = 1
  · have H1 := Lib.hid h1
    have hc : codeN n = [n] := if_pos h1
    rw [h1]
    clear h1 hs
    have hlt : n < 128 := by
      have := H1.out; unfold szN at this; (repeat' split at this) <;> omega
    go_wp2_with fail
    go_ret2
    refine ⟨_, rfl, ?_, by repeat (first | exact Below.refl _ _ | assumption | refine below_drewN ?_ _ | refine Below.drew ?_ | refine Below.alloc ?_ (Nat.le_refl _) _ | refine bal ?_ _ | refine bnext ?_ (by assumption))⟩
    have h := ownsRow_one ((w.alloc (.cells #[.int .i64 n] 3)).alloc (.cells #[.int .i64 1] 3)) w.heap.size (by simp; omega) 5 (.int .u8 n)
    rw [hc, H1.out]
    have e : ((w.alloc (.cells #[.int .i64 n] 3)).alloc (.cells #[.int .i64 1] 3)).heap.size = w.heap.size + 1 + 1 := by simp
    rw [e] at h
    exact h
  · have h2 : ((szN n : Nat) : Int) ≠ 1 := by omega
    have h3 : (((szN n : Nat) : Int) == 1) = false := by rw [beq_eq_false_iff_ne]; exact h2
    have hf := first_eq n hn h1
    have Hcl := Lib.hid (codeN_length n)
    have Hca : Hid (∀ i, 0 < i → i < szN n → (codeN n)[i]? = some (restV n (szN n) i)) := fun i => codeN_at n i
    have Hc0 : Hid ((codeN n)[0]? = some (firstV n (szN n))) := by
      show _ = _
      unfold codeN; rw [if_neg h1]; rfl
    have Hf := Lib.hid hf
    clear hf h2 h1
    obtain ⟨cd, hcd⟩ : ∃ c, codeN n = c := ⟨_, rfl⟩
    rw [hcd] at Hcl Hca Hc0
    have Hcd := Lib.hid hcd
    clear hcd
    obtain ⟨k, hk⟩ : ∃ k, szN n = k := ⟨_, rfl⟩
    rw [hk] at hs h3 Hca Hc0 Hf Hcl
    rw [hk]
    have Hk := Lib.hid hk
    clear hk
    have R0 : Hid (∀ (i : Nat), i < k → ∀ W : World, W.cell? ⟨w.heap.size, 0, none⟩ = some (.int .i64 n) → W.cell? ⟨w.heap.size + 1, 0, none⟩ = some (.int .i64 k) →
        Calls Tryd.prog 53 #[.int .i64 i, .pointer (some ⟨w.heap.size, 0, none⟩), .pointer (some ⟨w.heap.size + 1, 0, none⟩)] W fun e w' => e = .returned (.int .i64 (partN n k i : Nat)) ∧ w' = W) := fun i hi W h1 h2 => rest_still n k i hi (by omega) _ _ W h1 h2
    obtain ⟨w2, hw2, hb2, hc1, hc2, hl2⟩ : ∃ w2, (w.alloc (.cells #[.int .i64 n] 3)).alloc (.cells #[.int .i64 k] 3) = w2 ∧ Below w.heap.size w w2 ∧ w2.cell? ⟨w.heap.size, 0, none⟩ = some (.int .i64 n) ∧ w2.cell? ⟨w.heap.size + 1, 0, none⟩ = some (.int .i64 k) ∧ w.heap.size + 1 < w2.heap.size := ⟨_, rfl, by repeat (first | exact Below.refl _ _ | assumption | refine below_drewN ?_ _ | refine Below.drew ?_ | refine Below.alloc ?_ (Nat.le_refl _) _ | refine bal ?_ _ | refine bnext ?_ (by assumption)), by go_simp, by go_simp, by simp⟩
    go_wp2_with fail
    try clear hw2
    have C0 : Calls Tryd.prog 53 #[.int .i64 0, .pointer (some ⟨w.heap.size, 0, none⟩), .pointer (some ⟨w.heap.size + 1, 0, none⟩)] w2.drew fun e w' => e = .returned (.int .i64 (partN n k 0 : Nat)) ∧ w' = w2.drew := R0.out 0 (by omega) w2.drew hc1 hc2
    generalize hp0 : partN n k 0 = q at *
    have HC0 := Lib.hid C0
    clear C0
    refine wp_region_still_tail 7 (by kernel_rfl) (by kernel_rfl) ?_
    simp only [List.take_succ_cons, List.take_zero, List.drop_succ_cons, List.drop_zero]
    repeat still_step
    still_call (HC0.out)
    repeat still_step
    refine wpStill_nil ?_
    change wpList _ _ _ _ _ w2.drew
    have hb3 : Below w.heap.size w w2.drew := hb2.drew
    have hd1 : w2.drew.cell? ⟨w.heap.size, 0, none⟩ = some (.int .i64 n) := hc1
    have hd2 : w2.drew.cell? ⟨w.heap.size + 1, 0, none⟩ = some (.int .i64 k) := hc2
    have hl3 : w.heap.size + 1 < w2.drew.heap.size := hl2
    generalize w2.drew = w3 at *
    clear hb2 hc1 hc2 hl2 HC0
    go_upto_region 10 with fail
    have E1 : bits .or .i64 ((65280 : Int) / 2 ^ k) (q : Int) % 256 = (firstV n k : Nat) := by
      have hq : q < 9223372036854775808 := by
        have : partN n k 0 ≤ n := Nat.div_le_self _ _
        omega
      have hk : 65280 / 2 ^ k < 9223372036854775808 := Nat.lt_of_le_of_lt (Nat.div_le_self _ _) (by omega)
      have h1 := i64_or_nat (65280 / 2 ^ k) q hk hq
      rw [show ((65280 : Int) / 2 ^ k) = ((65280 / 2 ^ k : Nat) : Int) from by simp, h1, ← Hf.out.1]
      omega
    rw [E1]
    clear E1
    generalize IntKind.u8.wrap (bits .or .i64 ((65280 : Int) / 2 ^ k) (q : Int)) = x30
    have HOwn := Lib.hid (ownsRow_one w3 w3.heap.size (Nat.le_refl _) 5 (.int .u8 (firstV n k : Nat)))
    have Ht1 : Hid (cd.take 1 = [firstV n k]) := by
      show _ = _
      have := Hc0.out
      cases cd with
      | nil => simp at this
      | cons x l => simp at this; simp [this]
    go_loopw [8, 9] (fun v i wr => ∃ j : Nat, 1 ≤ j ∧ j ≤ k ∧ i = .int .i64 j ∧ Hid (wr.ownsRow w3.heap.size 5 1 v j (nv8 (cd.take j))) ∧ Below w3.heap.size w3 wr) (fun _ i _ => k - (intOf i).toNat)
    case atStart =>
      refine ⟨1, by omega, by omega, rfl, ?_, by repeat (first | exact Below.refl _ _ | assumption | refine below_drewN ?_ _ | refine Below.drew ?_ | refine Below.alloc ?_ (Nat.le_refl _) _ | refine bal ?_ _ | refine bnext ?_ (by assumption))⟩
      rw [Ht1.out]; exact HOwn.out
    case round =>
      clear HOwn
      obtain ⟨j, hj1, hj, rfl, Hown, hb⟩ := hrel
      have hc1 : wr.cell? ⟨w.heap.size, 0, none⟩ = some (.int .i64 n) := (hb.cell (p := ⟨w.heap.size, 0, none⟩) (by show w.heap.size < _; omega)).trans hd1
      have hc2 : wr.cell? ⟨w.heap.size + 1, 0, none⟩ = some (.int .i64 k) := (hb.cell (p := ⟨w.heap.size + 1, 0, none⟩) hl3).trans hd2
      by_cases hjj : j < k
      · have Hc := Lib.hid (R0.out j hjj wr hc1 hc2)
        have Ht : Hid (nv8 (cd.take (j + 1)) = nv8 (cd.take j) ++ [.int .u8 (restV n k j : Nat)]) := by
          show _ = _
          have hcj := Hca.out j (by omega) hjj
          have hjl : j < cd.length := by have := Hcl.out; omega
          rw [List.take_succ_eq_append_getElem hjl, nv8_append]
          rw [List.getElem?_eq_getElem hjl] at hcj
          rw [Option.some.inj hcj]; rfl
        have Hrv : Hid (restV n k j = 128 + partN n k j % 64) := rfl
        have hpn : partN n k j ≤ n := Nat.div_le_self _ _
        generalize partN n k j = p at *
        have E : bits .and .i64 (p : Int) 63 = ((p &&& 63 : Nat) : Int) := i64_and_nat p 63 (by omega) (by omega)
        have E2 : bits .or .i64 128 ((p &&& 63 : Nat) : Int) = ((128 ||| (p &&& 63) : Nat) : Int) := i64_or_nat 128 (p &&& 63) (by omega) (Nat.lt_of_le_of_lt Nat.and_le_right (by omega))
        have E3 := rest_eq p
        have HE := Lib.hid E
        have HE2 := Lib.hid E2
        have HE3 := Lib.hid E3
        clear E E2 E3
        go_wp2_with (first | (go_at_call 53; refine Hc.out.mono ?_; rintro e w5 ⟨rfl, rfl⟩) | (at_builtin; refine app1 (w0 := w3) rfl _ _ 28 rfl Tryd.underlying28 info_u8 rfl (by decide) rfl Hown.out (Nat.le_refl _) hb.size hb rfl rfl (one_u8 _) (by omega) (by unfold maxLen; omega) ?_; intro v1 w6 own1 hb1 hs1; have Hown1 := Lib.hid own1; clear own1))
        go_roundw
        case rel =>
          refine ⟨j + 1, by omega, by omega, by go_num, ?_, hb1⟩
          rw [Ht.out, Hrv.out]
          have h := Hown1.out
          have h3 := HE3.out
          have e : (((128 ||| (p &&& 63) : Nat) : Int)) % 256 = ((128 + p % 64 : Nat) : Int) := by omega
          rw [HE.out, HE2.out, e] at h
          exact h
        case measure => simp [intOf] <;> omega
      · obtain rfl : j = k := by omega
        have Hl : Hid (cd.take j = cd) := List.take_of_length_le (by rw [Hcl.out]; omega)
        go_wp2_with fail
        go_ret2
        refine ⟨_, rfl, ?_, hb3.trans (hb.mono hb3.size)⟩
        have := ownsRow_less Hown.out hb3.size
        rw [Hl.out] at this
        rw [Hk.out, Hcd.out]
        exact this
end Go.Proofs.YtgohfbfdhdepnaaDoor.C3
