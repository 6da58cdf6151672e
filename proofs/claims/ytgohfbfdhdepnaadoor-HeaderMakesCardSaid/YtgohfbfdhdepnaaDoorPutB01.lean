/-
  Writer.put: the walk.
-/
import Derived.Test.YtgohfbfdhdepnaaDoorPutW01
namespace Go.Proofs.YtgohfbfdhdepnaaDoor
open Go.RowKit

set_option maxRecDepth 100000 in
set_option maxHeartbeats 4000000 in
theorem put_any (R : Nat) (bs : List Nat) (u : Value) (v n : Nat) (hv : v < 2 ^ n) (hn : n ≤ 48) (w : World) (hW : Wtr w R bs u) (hlen : bs.length + n ≤ 1000000000000) :
    Calls Tryd.prog 51 #[.pointer (some ⟨R, 0, none⟩), .int .i64 n, .int .i64 v] w fun e w' => (∃ q, e = .returned q) ∧ ∃ u', Wtr w' R (bs ++ vb v n) u' ∧ FrW R u u' w w' := by
  have HW := Lib.hid hW
  have Hv := Lib.hid hv
  have hv48 : v < 281474976710656 := Nat.lt_of_lt_of_le hv (Nat.pow_le_pow_right (n := 2) (by omega) hn)
  clear hW hv
  go_enter Tryd.func51, Tryd.ntmps51
  try go_wp2_with fail
  go_loopw [1] (fun nv wr => ∃ (j q : Nat) (u1 : Value), nv = .int .i64 (q : Int) ∧ Hid (q + j = n) ∧ Hid (Wtr wr R (bs ++ (vb v n).take j) u1) ∧ Hid (FrW R u u1 w wr)) (fun nv _ => (intOf nv).toNat)
  case atStart => exact ⟨0, n, u, rfl, rfl, by rw [List.take_zero, List.append_nil]; exact HW.out, FrW.refl _ _ _⟩
  case round =>
    obtain ⟨j, q, u1, rfl, Hq, HWr, Hfr⟩ := hrel
    by_cases hqq : 0 < q
    · have hq48 : q ≤ 48 := by have := Hq.out; omega
      have Hal : Hid (∀ k, j + k ≤ n → (bs ++ (vb v n).take j) ++ ((vb v n).drop j).take k = bs ++ (vb v n).take (j + k)) := by
        intro k hk
        rw [List.append_assoc, List.take_add]
      have Hml : Hid (∀ k, j + k ≤ n → (((vb v n).drop j).take k).length = k) := by
        intro k hk
        rw [List.length_take, List.length_drop, vb_length]; omega
      have Hmb : Hid (∀ k, ∀ b ∈ ((vb v n).drop j).take k, b < 2) := fun k b hb => vb_lt v n b (List.mem_of_mem_drop (List.mem_of_mem_take hb))
      have Hpt : Hid (∀ k, j + k ≤ n → sg (fun t => (((vb v n).drop j).take k).getD t 0) 0 k = v / 2 ^ (n - j - k) % 2 ^ k) := vb_part v n j
      have Hbl : Hid ((bs ++ (vb v n).take j).length = bs.length + j) := by
        show _ = _
        rw [List.length_append, List.length_take, vb_length, Nat.min_eq_left (by have := Hq.out; omega)]
      generalize bs ++ (vb v n).take j = B at *
      obtain ⟨p, hp⟩ : ∃ p, B.length = p := ⟨_, rfl⟩
      have hp12 : p ≤ 1000000000000 := by rw [← hp]; exact HWr.out.len
      obtain ⟨d, hd⟩ : ∃ d, p / 8 = d := ⟨_, rfl⟩
      obtain ⟨s, hs⟩ : ∃ s, p % 8 = s := ⟨_, rfl⟩
      have hs8 : s < 8 := by omega
      have hpds : p = 8 * d + s := by omega
      have hpd : (p : Int) / 8 = (d : Int) := by omega
      have hps : (p : Int) % 8 = (s : Int) := by omega
      have h0 := HWr.out.c0
      have h1 := HWr.out.c1
      have hR : R < wr.heap.size := (Array.getElem?_eq_some_iff.1 HWr.out.row).1
      rw [hp] at h0
      have Hp := Lib.hid hp
      have Hd := Lib.hid hpds
      clear hp hpds hd hs
      by_cases hs0 : s = 0
      · subst hs0
        have hps0 : (p : Int) % 8 = 0 := by omega
        clear hps
        have hown := HWr.out.own
        rw [show (B.length + 7) / 8 = d from by rw [Hp.out, Hd.out]; omega] at hown
        have Hown := Lib.hid hown
        have hd12 : d ≤ 1000000000000 := by have := Hd.out; omega
        clear hown
        go_upto_region 3 with (at_builtin; refine app1g rfl _ _ 28 rfl Tryd.underlying28 info_u8 rfl (by decide) rfl Hown.out hR rfl rfl (one_u8 _) (by omega) (by unfold maxLen; omega) ?_; intro u2 w1 own1 hg1 hat1; obtain ⟨A2, c2, rfl, hc2, -, -, -⟩ := own_rd4 own1; have Hg1 : Hid (wr.grownBy w1 u1.ownBlock) := hg1; have Hat1 : Hid ((Value.slice A2 (d + 1) c2).ownBlock = u1.ownBlock ∨ ∃ k, (Value.slice A2 (d + 1) c2).ownBlock = some k ∧ wr.heap.size ≤ k) := hat1; have Hown1 := Lib.hid own1; clear own1 hg1 hat1; have hz1 : w1.frozen? ⟨R, 1, none⟩ = false := (World.frozen?_of_block (w := wr) (a := ⟨R, 1, none⟩) (Hg1.out.block R hR (fun e => HWr.out.apart e.symm))).trans (HWr.out.fz 1); have hk1 : w1.cell? ⟨R, 1, none⟩ = some u1 := (World.cell?_of_block (w := wr) (a := ⟨R, 1, none⟩) (Hg1.out.block R hR (fun e => HWr.out.apart e.symm))).trans h1)
        obtain ⟨Hm, Hf⟩ := HWr.out.mid0 (by rw [Hp.out, Hd.out]; rfl) Hown1.out Hg1.out Hat1.out
        have HM := Lib.hid Hm
        have HF := Lib.hid Hf
        clear Hm Hf Hown1 Hown Hat1
        generalize w1.setCell ⟨R, 1, none⟩ (.slice A2 (d + 1) c2) = w2 at *
        have h0 := HM.out.c0
        have h1 := HM.out.c1
        rw [Hp.out] at h0
        clear hk1 hz1 Hg1
        have HRe := Lib.hid (rest_any p (by omega) w2)
        have hr0 : (8 - p % 8) % 8 = 0 := by have := Hd.out; omega
        rw [hr0] at HRe
        clear hr0
        go_wp2_with fail
        refine HRe.out.mono ?_
        rintro e w3 ⟨rfl, hb3⟩
        have HM3 := Lib.hid (HM.out.below hb3)
        have HF3 := Lib.hid (HF.out.next hb3)
        clear HM HF HRe hb3 h0 h1
        have h0 := HM3.out.c0
        have h1 := HM3.out.c1
        rw [Hp.out] at h0
        by_cases hq8 : q ≤ 8
        · obtain ⟨r, hr⟩ : ∃ r, 8 - q = r := ⟨_, rfl⟩
          have hr8 : (8 : Int) - q = (r : Int) := by omega
          have hq9 : (q : Int) ≤ 8 := by omega
          have hqn : ¬ (q : Int) < 0 := by omega
          have hq0 : (0 : Int) < q := by omega
          have hpk := pow8 (q) (by omega)
          obtain ⟨K, hK⟩ : ∃ K : Nat, 2 ^ q = K := ⟨_, rfl⟩
          have hK2 : ((2 : Int) ^ q) = (K : Int) := by rw [← hK]; simp
          rw [hK] at hpk
          have hK63 : K < 9223372036854775808 := Nat.lt_of_le_of_lt hpk.2 (by decide)
          obtain ⟨M, hM⟩ : ∃ M : Nat, M = K - 1 := ⟨_, rfl⟩
          have f1 : IntKind.i64.wrap (K : Int) = K := wrap_i64_nat K hK63
          have f2 : IntKind.i64.wrap ((K : Int) - 1) = (M : Int) := by rw [hM]; exact wrap_less_i K hpk.1 hK63
          have f1' : wrap64 (K : Int) = K := wrap_nat K hK63
          have f2' : wrap64 ((K : Int) - 1) = (M : Int) := by rw [hM]; exact wrap_less K hpk.1 hK63
          have hM2 : M = 2 ^ q - 1 := by rw [hK]; exact hM
          clear hM hK hpk hK63
          obtain ⟨y, z, hz, f3, f4, f4', f5, f6⟩ := put_step (v := v) (n := n) (j := j) (k := q) (s := 0) (d := d) (r := r) (a := 0) (M := M) (v2 := (v : Int)) HWr.out.bit (by rw [Hp.out, Hd.out]) (by omega) (by have := Hq.out; omega) hv48 (by have := Hq.out; omega) (by first | rfl | simp) hM2
          clear hM2
          have Hz := Lib.hid hz
          clear hz
          skip
          obtain ⟨m, hm⟩ : ∃ m, ((vb v n).drop j).take (q) = m := ⟨_, rfl⟩
          rw [hm] at f6
          have hml : m.length = q := by rw [← hm]; exact Hml.out (q) (by have := Hq.out; omega)
          have Hmb2 : Hid (∀ b ∈ m, b < 2) := by intro b hb; rw [← hm] at hb; exact Hmb.out (q) b hb
          have Hal2 : Hid (B ++ m = bs ++ (vb v n).take (j + q)) := by show _ = _; rw [← hm]; exact Hal.out (q) (by have := Hq.out; omega)
          have Hml2 := Lib.hid hml
          clear hm hml
          go_upto_region 7 with fail
          obtain ⟨g, cap, e⟩ := form01 HM3.out.own (by omega)
          first | (injection e with e1 e2 e3; subst e1 e3) | subst e
          have hcl : w3.cell? ⟨g, d, none⟩ = some (.int .u8 (byteAt B d : Nat)) := (HM3.out.own.cellAt d (by omega)).trans (pkN_get B (d + 1) d (by omega))
          have hfz := HM3.out.own.frozenAt d
          have hd0 : (d : Int) < (d : Int) + 1 := by omega
          have hw0 : IntKind.i64.wrap 0 = 0 := by decide
          have hwd : IntKind.i64.wrap (d : Int) = d := by rw [IntKind.wrap_i64]; omega
          refine wp_region_still_tail 26 (by kernel_rfl) (by kernel_rfl) ?_
          simp only [List.take_succ_cons, List.take_zero, List.drop_succ_cons, List.drop_zero]
          repeat still_step
          refine wpStill_nil ?_
          change wpList _ _ _ _ _ w3.drew
          have hcl2 : w3.drew.cell? ⟨g, d, none⟩ = some (.int .u8 (byteAt B d : Nat)) := hcl
          have hfz2 : w3.drew.frozen? ⟨g, d, none⟩ = false := hfz
          have Hdone := Lib.hid (Mid.done (w := w3.drew) (R := R) (d := d) (g := g) (bs := B) (m := m) ⟨HM3.out.row, HM3.out.own⟩ (by rw [Hp.out, Hd.out]; omega) (by rw [Hp.out, Hd.out, Hml2.out]; omega) (by rw [Hml2.out]; omega) HWr.out.bit Hmb2.out (by rw [Hbl.out, Hml2.out]; have := Hq.out; omega))
          have HF4 := Lib.hid (HF3.out.next (Below.drew (Below.refl _ _)))
          have hgR : g ≠ R := fun e => HM3.out.apart (by subst e; rfl)
          have hfr3 : w3.frozen? ⟨R, 0, none⟩ = false := HM3.out.fz 0
          have hfr3d : w3.drew.frozen? ⟨R, 0, none⟩ = false := hfr3
          have h0d : w3.drew.cell? ⟨R, 0, none⟩ = some (.int .i64 p) := h0
          have hwp : IntKind.i64.wrap ((p : Int) + (q)) = (p : Int) + (q) := by rw [IntKind.wrap_i64]; omega
          go_wp2_with fail
          go_roundw
          case rel =>
            obtain ⟨d1, d2⟩ := Hdone.out
            rw [Hml2.out, Hp.out, Int.natCast_add] at d1 d2
            exact ⟨j + q, 0, _, by go_num, by show _ = _; have := Hq.out; omega, by rw [← Hal2.out]; exact d1, Hfr.out.trans (HF4.out.trans d2)⟩
          case measure => simp [intOf] <;> omega
        · obtain ⟨a, ha⟩ : ∃ a, q - 8 = a := ⟨_, rfl⟩
          have hqa : (q : Int) - 8 = (a : Int) := by omega
          have hq9 : ¬ (q : Int) < 8 := by omega
          have hq10 : (8 : Int) ≤ q := by omega
          have hqn : ¬ (q : Int) < 0 := by omega
          have hq0 : (0 : Int) < q := by omega
          have hwa : IntKind.i64.wrap (a : Int) = a := by rw [IntKind.wrap_i64]; omega
          have hmin : min a 64 = a := Nat.min_eq_left (by omega)
          have g1 : IntKind.i64.wrap 256 = 256 := by decide
          have g2 : IntKind.i64.wrap 255 = 255 := by decide
          have hM2 : (255 : Nat) = 2 ^ 8 - 1 := by decide
          obtain ⟨y, z, hz, f3, f4, f4', f5, f6⟩ := put_step (v := v) (n := n) (j := j) (k := 8) (s := 0) (d := d) (r := 0) (a := a) (M := 255) (v2 := ((v : Int) / 2 ^ a)) HWr.out.bit (by rw [Hp.out, Hd.out]) (by omega) (by have := Hq.out; omega) hv48 (by have := Hq.out; omega) (by first | rfl | simp) hM2
          clear hM2
          have Hz := Lib.hid hz
          clear hz
          (have f3 : bits .and .i64 ((v : Int) / 2 ^ a) (255 : Int) = (y : Int) := f3; rw [Int.pow_zero, Int.mul_one] at f4 f4')
          obtain ⟨m, hm⟩ : ∃ m, ((vb v n).drop j).take (8) = m := ⟨_, rfl⟩
          rw [hm] at f6
          have hml : m.length = 8 := by rw [← hm]; exact Hml.out (8) (by have := Hq.out; omega)
          have Hmb2 : Hid (∀ b ∈ m, b < 2) := by intro b hb; rw [← hm] at hb; exact Hmb.out (8) b hb
          have Hal2 : Hid (B ++ m = bs ++ (vb v n).take (j + 8)) := by show _ = _; rw [← hm]; exact Hal.out (8) (by have := Hq.out; omega)
          have Hml2 := Lib.hid hml
          clear hm hml
          go_upto_region 7 with fail
          obtain ⟨g, cap, e⟩ := form01 HM3.out.own (by omega)
          first | (injection e with e1 e2 e3; subst e1 e3) | subst e
          have hcl : w3.cell? ⟨g, d, none⟩ = some (.int .u8 (byteAt B d : Nat)) := (HM3.out.own.cellAt d (by omega)).trans (pkN_get B (d + 1) d (by omega))
          have hfz := HM3.out.own.frozenAt d
          have hd0 : (d : Int) < (d : Int) + 1 := by omega
          have hw0 : IntKind.i64.wrap 0 = 0 := by decide
          have hwd : IntKind.i64.wrap (d : Int) = d := by rw [IntKind.wrap_i64]; omega
          refine wp_region_still_tail 26 (by kernel_rfl) (by kernel_rfl) ?_
          simp only [List.take_succ_cons, List.take_zero, List.drop_succ_cons, List.drop_zero]
          repeat still_step
          refine wpStill_nil ?_
          change wpList _ _ _ _ _ w3.drew
          have hcl2 : w3.drew.cell? ⟨g, d, none⟩ = some (.int .u8 (byteAt B d : Nat)) := hcl
          have hfz2 : w3.drew.frozen? ⟨g, d, none⟩ = false := hfz
          have Hdone := Lib.hid (Mid.done (w := w3.drew) (R := R) (d := d) (g := g) (bs := B) (m := m) ⟨HM3.out.row, HM3.out.own⟩ (by rw [Hp.out, Hd.out]; omega) (by rw [Hp.out, Hd.out, Hml2.out]; omega) (by rw [Hml2.out]; omega) HWr.out.bit Hmb2.out (by rw [Hbl.out, Hml2.out]; have := Hq.out; omega))
          have HF4 := Lib.hid (HF3.out.next (Below.drew (Below.refl _ _)))
          have hgR : g ≠ R := fun e => HM3.out.apart (by subst e; rfl)
          have hfr3 : w3.frozen? ⟨R, 0, none⟩ = false := HM3.out.fz 0
          have hfr3d : w3.drew.frozen? ⟨R, 0, none⟩ = false := hfr3
          have h0d : w3.drew.cell? ⟨R, 0, none⟩ = some (.int .i64 p) := h0
          have hwp : IntKind.i64.wrap ((p : Int) + (8)) = (p : Int) + (8) := by rw [IntKind.wrap_i64]; omega
          go_wp2_with fail
          go_roundw
          case rel =>
            obtain ⟨d1, d2⟩ := Hdone.out
            rw [Hml2.out, Hp.out, Int.natCast_add] at d1 d2
            exact ⟨j + 8, q - 8, _, by go_num, by show _ = _; have := Hq.out; omega, by rw [← Hal2.out]; exact d1, Hfr.out.trans (HF4.out.trans d2)⟩
          case measure => simp [intOf] <;> omega
      · have hsi : ((s : Int) == 0) = false := by rw [beq_eq_false_iff_ne]; omega
        have HM := Lib.hid (HWr.out.mid (d := d) (by rw [Hp.out, Hd.out]; omega) (by rw [Hp.out, Hd.out]; omega))
        have HRe := Lib.hid (rest_any p (by omega) wr)
        obtain ⟨k, hk⟩ : ∃ k, 8 - s = k := ⟨_, rfl⟩
        have hr0 : (8 - p % 8) % 8 = k := by have := Hd.out; omega
        rw [hr0] at HRe
        have hk8 : (8 : Int) - s = (k : Int) := by omega
        have hkq : k < 8 ∧ 0 < k ∧ s + k = 8 := by omega
        clear hr0
        go_wp2_with fail
        refine HRe.out.mono ?_
        rintro e w3 ⟨rfl, hb3⟩
        have HM3 := Lib.hid (HM.out.below hb3)
        have HF3 := Lib.hid ((FrW.refl R u1 wr).next hb3)
        clear HM HRe hb3 h0 h1
        have h0 := HM3.out.c0
        have h1 := HM3.out.c1
        rw [Hp.out] at h0
        by_cases hq8 : q ≤ k
        · obtain ⟨r, hr⟩ : ∃ r, k - q = r := ⟨_, rfl⟩
          have hr8 : (k : Int) - q = (r : Int) := by omega
          have hq9 : (q : Int) ≤ k := by omega
          have hpk := pow8 (q) (by omega)
          obtain ⟨K, hK⟩ : ∃ K : Nat, 2 ^ q = K := ⟨_, rfl⟩
          have hK2 : ((2 : Int) ^ q) = (K : Int) := by rw [← hK]; simp
          rw [hK] at hpk
          have hK63 : K < 9223372036854775808 := Nat.lt_of_le_of_lt hpk.2 (by decide)
          obtain ⟨M, hM⟩ : ∃ M : Nat, M = K - 1 := ⟨_, rfl⟩
          have f1 : IntKind.i64.wrap (K : Int) = K := wrap_i64_nat K hK63
          have f2 : IntKind.i64.wrap ((K : Int) - 1) = (M : Int) := by rw [hM]; exact wrap_less_i K hpk.1 hK63
          have f1' : wrap64 (K : Int) = K := wrap_nat K hK63
          have f2' : wrap64 ((K : Int) - 1) = (M : Int) := by rw [hM]; exact wrap_less K hpk.1 hK63
          have hM2 : M = 2 ^ q - 1 := by rw [hK]; exact hM
          clear hM hK hpk hK63
          obtain ⟨y, z, hz, f3, f4, f4', f5, f6⟩ := put_step (v := v) (n := n) (j := j) (k := q) (s := s) (d := d) (r := r) (a := 0) (M := M) (v2 := (v : Int)) HWr.out.bit (by rw [Hp.out, Hd.out]) (by omega) (by have := Hq.out; omega) hv48 (by have := Hq.out; omega) (by first | rfl | simp) hM2
          clear hM2
          have Hz := Lib.hid hz
          clear hz
          skip
          obtain ⟨m, hm⟩ : ∃ m, ((vb v n).drop j).take (q) = m := ⟨_, rfl⟩
          rw [hm] at f6
          have hml : m.length = q := by rw [← hm]; exact Hml.out (q) (by have := Hq.out; omega)
          have Hmb2 : Hid (∀ b ∈ m, b < 2) := by intro b hb; rw [← hm] at hb; exact Hmb.out (q) b hb
          have Hal2 : Hid (B ++ m = bs ++ (vb v n).take (j + q)) := by show _ = _; rw [← hm]; exact Hal.out (q) (by have := Hq.out; omega)
          have Hml2 := Lib.hid hml
          clear hm hml
          go_upto_region 7 with fail
          obtain ⟨g, cap, e⟩ := form01 HM3.out.own (by omega)
          first | (injection e with e1 e2 e3; subst e1 e3) | subst e
          have hcl : w3.cell? ⟨g, d, none⟩ = some (.int .u8 (byteAt B d : Nat)) := (HM3.out.own.cellAt d (by omega)).trans (pkN_get B (d + 1) d (by omega))
          have hfz := HM3.out.own.frozenAt d
          have hd0 : (d : Int) < (d : Int) + 1 := by omega
          have hw0 : IntKind.i64.wrap 0 = 0 := by decide
          have hwd : IntKind.i64.wrap (d : Int) = d := by rw [IntKind.wrap_i64]; omega
          refine wp_region_still_tail 26 (by kernel_rfl) (by kernel_rfl) ?_
          simp only [List.take_succ_cons, List.take_zero, List.drop_succ_cons, List.drop_zero]
          repeat still_step
          refine wpStill_nil ?_
          change wpList _ _ _ _ _ w3.drew
          have hcl2 : w3.drew.cell? ⟨g, d, none⟩ = some (.int .u8 (byteAt B d : Nat)) := hcl
          have hfz2 : w3.drew.frozen? ⟨g, d, none⟩ = false := hfz
          have Hdone := Lib.hid (Mid.done (w := w3.drew) (R := R) (d := d) (g := g) (bs := B) (m := m) ⟨HM3.out.row, HM3.out.own⟩ (by rw [Hp.out, Hd.out]; omega) (by rw [Hp.out, Hd.out, Hml2.out]; omega) (by rw [Hml2.out]; omega) HWr.out.bit Hmb2.out (by rw [Hbl.out, Hml2.out]; have := Hq.out; omega))
          have HF4 := Lib.hid (HF3.out.next (Below.drew (Below.refl _ _)))
          have hgR : g ≠ R := fun e => HM3.out.apart (by subst e; rfl)
          have hfr3 : w3.frozen? ⟨R, 0, none⟩ = false := HM3.out.fz 0
          have hfr3d : w3.drew.frozen? ⟨R, 0, none⟩ = false := hfr3
          have h0d : w3.drew.cell? ⟨R, 0, none⟩ = some (.int .i64 p) := h0
          have hwp : IntKind.i64.wrap ((p : Int) + (q)) = (p : Int) + (q) := by rw [IntKind.wrap_i64]; omega
          go_wp2_with fail
          go_roundw
          case rel =>
            obtain ⟨d1, d2⟩ := Hdone.out
            rw [Hml2.out, Hp.out, Int.natCast_add] at d1 d2
            exact ⟨j + q, 0, _, by go_num, by show _ = _; have := Hq.out; omega, by rw [← Hal2.out]; exact d1, Hfr.out.trans (HF4.out.trans d2)⟩
          case measure => simp [intOf] <;> omega
        · obtain ⟨a, ha⟩ : ∃ a, q - k = a := ⟨_, rfl⟩
          have hqa : (q : Int) - k = (a : Int) := by omega
          have hq9 : ¬ (q : Int) < k := by omega
          have hq10 : (k : Int) ≤ q := by omega
          have hwa : IntKind.i64.wrap (a : Int) = a := by rw [IntKind.wrap_i64]; omega
          have hmin : min a 64 = a := Nat.min_eq_left (by omega)
          have hpk := pow8 (k) (by omega)
          obtain ⟨K, hK⟩ : ∃ K : Nat, 2 ^ k = K := ⟨_, rfl⟩
          have hK2 : ((2 : Int) ^ k) = (K : Int) := by rw [← hK]; simp
          rw [hK] at hpk
          have hK63 : K < 9223372036854775808 := Nat.lt_of_le_of_lt hpk.2 (by decide)
          obtain ⟨M, hM⟩ : ∃ M : Nat, M = K - 1 := ⟨_, rfl⟩
          have f1 : IntKind.i64.wrap (K : Int) = K := wrap_i64_nat K hK63
          have f2 : IntKind.i64.wrap ((K : Int) - 1) = (M : Int) := by rw [hM]; exact wrap_less_i K hpk.1 hK63
          have f1' : wrap64 (K : Int) = K := wrap_nat K hK63
          have f2' : wrap64 ((K : Int) - 1) = (M : Int) := by rw [hM]; exact wrap_less K hpk.1 hK63
          have hM2 : M = 2 ^ k - 1 := by rw [hK]; exact hM
          clear hM hK hpk hK63
          obtain ⟨y, z, hz, f3, f4, f4', f5, f6⟩ := put_step (v := v) (n := n) (j := j) (k := k) (s := s) (d := d) (r := 0) (a := a) (M := M) (v2 := ((v : Int) / 2 ^ a)) HWr.out.bit (by rw [Hp.out, Hd.out]) (by omega) (by have := Hq.out; omega) hv48 (by have := Hq.out; omega) (by first | rfl | simp) hM2
          clear hM2
          have Hz := Lib.hid hz
          clear hz
          (rw [Int.pow_zero, Int.mul_one] at f4 f4')
          obtain ⟨m, hm⟩ : ∃ m, ((vb v n).drop j).take (k) = m := ⟨_, rfl⟩
          rw [hm] at f6
          have hml : m.length = k := by rw [← hm]; exact Hml.out (k) (by have := Hq.out; omega)
          have Hmb2 : Hid (∀ b ∈ m, b < 2) := by intro b hb; rw [← hm] at hb; exact Hmb.out (k) b hb
          have Hal2 : Hid (B ++ m = bs ++ (vb v n).take (j + k)) := by show _ = _; rw [← hm]; exact Hal.out (k) (by have := Hq.out; omega)
          have Hml2 := Lib.hid hml
          clear hm hml
          go_upto_region 7 with fail
          obtain ⟨g, cap, e⟩ := form01 HM3.out.own (by omega)
          first | (injection e with e1 e2 e3; subst e1 e3) | subst e
          have hcl : w3.cell? ⟨g, d, none⟩ = some (.int .u8 (byteAt B d : Nat)) := (HM3.out.own.cellAt d (by omega)).trans (pkN_get B (d + 1) d (by omega))
          have hfz := HM3.out.own.frozenAt d
          have hd0 : (d : Int) < (d : Int) + 1 := by omega
          have hw0 : IntKind.i64.wrap 0 = 0 := by decide
          have hwd : IntKind.i64.wrap (d : Int) = d := by rw [IntKind.wrap_i64]; omega
          refine wp_region_still_tail 26 (by kernel_rfl) (by kernel_rfl) ?_
          simp only [List.take_succ_cons, List.take_zero, List.drop_succ_cons, List.drop_zero]
          repeat still_step
          refine wpStill_nil ?_
          change wpList _ _ _ _ _ w3.drew
          have hcl2 : w3.drew.cell? ⟨g, d, none⟩ = some (.int .u8 (byteAt B d : Nat)) := hcl
          have hfz2 : w3.drew.frozen? ⟨g, d, none⟩ = false := hfz
          have Hdone := Lib.hid (Mid.done (w := w3.drew) (R := R) (d := d) (g := g) (bs := B) (m := m) ⟨HM3.out.row, HM3.out.own⟩ (by rw [Hp.out, Hd.out]; omega) (by rw [Hp.out, Hd.out, Hml2.out]; omega) (by rw [Hml2.out]; omega) HWr.out.bit Hmb2.out (by rw [Hbl.out, Hml2.out]; have := Hq.out; omega))
          have HF4 := Lib.hid (HF3.out.next (Below.drew (Below.refl _ _)))
          have hgR : g ≠ R := fun e => HM3.out.apart (by subst e; rfl)
          have hfr3 : w3.frozen? ⟨R, 0, none⟩ = false := HM3.out.fz 0
          have hfr3d : w3.drew.frozen? ⟨R, 0, none⟩ = false := hfr3
          have h0d : w3.drew.cell? ⟨R, 0, none⟩ = some (.int .i64 p) := h0
          have hwp : IntKind.i64.wrap ((p : Int) + (k)) = (p : Int) + (k) := by rw [IntKind.wrap_i64]; omega
          go_wp2_with fail
          go_roundw
          case rel =>
            obtain ⟨d1, d2⟩ := Hdone.out
            rw [Hml2.out, Hp.out, Int.natCast_add] at d1 d2
            exact ⟨j + k, q - k, _, by go_num, by show _ = _; have := Hq.out; omega, by rw [← Hal2.out]; exact d1, Hfr.out.trans (HF4.out.trans d2)⟩
          case measure => simp [intOf] <;> omega
    · obtain rfl : q = 0 := by omega
      have hj : j = n := by have := Hq.out; omega
      subst hj
      go_wp2_with fail
      have e : (vb v j).take j = vb v j := List.take_of_length_le (by rw [vb_length]; omega)
      have hW2 := HWr.out
      rw [e] at hW2
      exact bodyPost_end (v := .tuple #[]) (by simp [results, Tryd.results51, go_sem]) rfl ⟨⟨_, rfl⟩, u1, hW2, Hfr.out⟩
end Go.Proofs.YtgohfbfdhdepnaaDoor
