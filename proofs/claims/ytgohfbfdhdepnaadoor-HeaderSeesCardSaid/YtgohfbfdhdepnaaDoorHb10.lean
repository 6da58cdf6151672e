/-
  header.Write: its walk.
-/
import Derived.Test.YtgohfbfdhdepnaaDoorHb9
set_option linter.unusedSimpArgs false
set_option linter.unusedVariables false
namespace Go.Proofs.YtgohfbfdhdepnaaDoor
open Go.RowKit

def blkI (bc : Nat) (b : Int) : List Nat := if bc = 6 then vb (b - 1).toNat 8 else if bc = 7 then vb (b - 1).toNat 16 else []
def ratI (rc : Nat) (r : Int) : List Nat := if rc = 12 then vb (r / 1000).toNat 8 else if rc = 13 then vb r.toNat 16 else if rc = 14 then vb (r / 10).toNat 16 else []
def hdI0 (V : Bool) (bc rc m dc n : Nat) : List Nat := [] ++ vb 32764 15 ++ vb (bitV V) 1 ++ vb bc 4 ++ vb rc 4 ++ vb m 4 ++ vb dc 3 ++ vb 0 1 ++ by8 (codB n)
/-- A header's bits, without the sum. -/
def hdI (h : Hd) : List Nat := hdI0 h.V h.bc.toNat h.rc.toNat h.m.toNat h.dc.toNat h.n.toNat ++ blkI h.bc.toNat h.b ++ ratI h.rc.toNat h.r
/-- A header's bytes. -/
def hdB (h : Hd) : List UInt8 := pkL (hdI h) ++ [UInt8.ofNat (C2.crc8 0 (pkL (hdI h)))]

theorem chkE_zero {h : Hd} (e : chkE h = 0) : codE h = 0 ∧ 0 ≤ h.n ∧ h.n < mostV h.V ∧ bFits h.bc h.b = true ∧ rFits h.rc h.r = true ∧ h.d = depL.getD h.dc.toNat 0 := by
  unfold chkE at e
  split at e
  · rename_i hc
    obtain ⟨h1, h2⟩ := fstE_two _ _ e
    have k1 : (decide (h.n < 0) || decide (h.n ≥ mostV h.V)) = false := by
      cases hq : (decide (h.n < 0) || decide (h.n ≥ mostV h.V)) with
      | false => rfl
      | true => rw [hq] at h1; simp at h1
    have k2 : (!bFits h.bc h.b || !rFits h.rc h.r || h.d != depL.getD h.dc.toNat 0) = false := by
      cases hq : (!bFits h.bc h.b || !rFits h.rc h.r || h.d != depL.getD h.dc.toNat 0) with
      | false => rfl
      | true => rw [hq] at h2; simp at h2
    rw [Bool.or_eq_false_iff, decide_eq_false_iff_not, decide_eq_false_iff_not] at k1
    rw [Bool.or_eq_false_iff, Bool.or_eq_false_iff, Bool.not_eq_false', Bool.not_eq_false', bne_eq_false_iff_eq] at k2
    exact ⟨hc, by omega, by omega, k2.1.1, k2.1.2, k2.2⟩
  · rename_i hc
    exact absurd e hc
theorem mostV_le (V : Bool) : mostV V ≤ 68719476736 := by cases V <;> decide
/-- What a header that may be is, in numbers. -/
theorem hd_ok {h : Hd} (e : chkE h = 0) : ∃ bc rc m dc n : Nat, h = ⟨h.V, bc, rc, m, dc, n, h.b, h.r, depL.getD dc 0⟩ ∧ bc < 16 ∧ rc < 16 ∧ m ≤ 10 ∧ dc < 8 ∧ n < 68719476736 ∧ (n : Int) < mostV h.V ∧ bFits bc h.b = true ∧ rFits rc h.r = true ∧ bc ≠ 0 ∧ rc ≠ 15 ∧ dc ≠ 3 := by
  obtain ⟨hc, h1, h2, h3, h4, h5⟩ := chkE_zero e
  obtain ⟨k1, k2, k3, k4⟩ := codE_zero hc
  obtain ⟨a1, a2, a3⟩ := ofT_in k1
  obtain ⟨b1, b2, b3⟩ := ofT_in k2
  obtain ⟨c1, c2, c3⟩ := ofT_in k4
  rw [a3] at k1
  rw [b3] at k2
  rw [c3] at k4
  have a2' : h.bc < 16 := a2
  have b2' : h.rc < 16 := b2
  have c2' : h.dc < 8 := c2
  have hm : 0 ≤ h.m ∧ h.m ≤ 10 := by
    unfold chE at k3
    split at k3
    · cases k3
    · omega
  have hml := mostV_le h.V
  obtain ⟨V, bc, rc, m, dc, n, b, r, d⟩ := h
  simp only at *
  obtain ⟨bc, rfl⟩ : ∃ x : Nat, bc = x := ⟨bc.toNat, by omega⟩
  obtain ⟨rc, rfl⟩ : ∃ x : Nat, rc = x := ⟨rc.toNat, by omega⟩
  obtain ⟨m, rfl⟩ : ∃ x : Nat, m = x := ⟨m.toNat, by omega⟩
  obtain ⟨dc, rfl⟩ : ∃ x : Nat, dc = x := ⟨dc.toNat, by omega⟩
  obtain ⟨n, rfl⟩ : ∃ x : Nat, n = x := ⟨n.toNat, by omega⟩
  rw [Int.toNat_natCast] at k1 k2 k4 h5
  subst h5
  refine ⟨bc, rc, m, dc, n, rfl, by omega, by omega, by omega, by omega, by omega, h2, h3, h4, ?_, ?_, ?_⟩
  · rintro rfl; exact k1 rfl
  · rintro rfl; exact k2 rfl
  · rintro rfl; exact k4 rfl
theorem blk_behind (i : Nat) (hi : i < 16) (h : blkL.getD i 0 = -2) : i = 6 ∨ i = 7 := by
  have : ∀ i : Fin 16, blkL.getD i.val 0 = -2 → i.val = 6 ∨ i.val = 7 := by decide +kernel
  exact this ⟨i, hi⟩ h

set_option maxHeartbeats 800000 in
theorem Write_no (h : Hd) (hr63 : h.r ≤ 9223372036854775807) (hc : chkE h ≠ 0) (w : World) (ht : HTabs w) :
    Calls Tryd.prog 10 #[h.val] w fun e w' => e = .returned (.tuple #[.slice none 0 0, .int .i64 (chkE h)]) ∧ Below w.heap.size w w' := by
  have HC := Lib.hid (fun W (hb : Below w.heap.size w W) => Check_any h hr63 W (ht.below hb))
  have hx : (chkE h != 0) = true := by rw [bne_iff_ne]; exact hc
  have Hb0 : Hid (Below w.heap.size w (w.alloc (.cells h.cells 23))) := bal (Below.refl _ _) _
  generalize chkE h = xc at *
  obtain ⟨V, bc, rc, m, dc, n, b, r, d⟩ := h
  simp only [Hd.val, Hd.cells] at HC Hb0 ⊢
  clear hr63 ht hc
  go_enter Tryd.func10, Tryd.ntmps10
  go_wp2_with fail
  refine (HC.out _ Hb0.out).mono ?_
  rintro e w1 ⟨rfl, hb1⟩
  have hb2 := bnext Hb0.out hb1
  clear HC Hb0
  go_wp2_with fail
  go_ret2
  exact ⟨rfl, hb2⟩

set_option maxRecDepth 100000 in
set_option maxHeartbeats 8000000 in
theorem Write_ok (h : Hd) (hr63 : h.r ≤ 9223372036854775807) (hc : chkE h = 0) (w : World) (ht : HTabs w) :
    Calls Tryd.prog 10 #[h.val] w fun e w' => ∃ v, e = .returned (.tuple #[v, .int .i64 0]) ∧ Hid (w'.ownsRow w.heap.size 5 1 v (hdB h).length (bv (hdB h))) ∧ Below w.heap.size w w' := by
  have HC := Lib.hid (fun W (hb : Below w.heap.size w W) => Check_any h hr63 W (ht.below hb))
  have Hb0 : Hid (Below w.heap.size w (w.alloc (.cells h.cells 23))) := bal (Below.refl _ _) _
  have HB0 : Hid (HdAt (w.alloc (.cells h.cells 23)) w.heap.size h) := heap_alloc_last w _
  rw [hc] at HC
  obtain ⟨bc, rc, m, dc, n, hh, hbc, hrc, hm, hdc, hn, -, hbf, hrf, -, -, -⟩ := hd_ok hc
  have HF : Hid (hdB h = pkL (hdI h) ++ [UInt8.ofNat (C2.crc8 0 (pkL (hdI h)))]) := rfl
  have HI : Hid (hdI h = hdI0 h.V bc rc m dc n ++ blkI bc h.b ++ ratI rc h.r) := by
    show _ = _
    rw [hh]; rfl
  generalize hdB h = F at *
  generalize hdI h = IB at *
  obtain ⟨V, bc', rc', m', dc', n', b, r, d⟩ := h
  simp only [Hd.mk.injEq] at hh
  obtain ⟨-, rfl, rfl, rfl, rfl, rfl, -, -, rfl⟩ := hh
  simp only at hbf hrf HI hr63
  have HZb : Hid (∀ W, Below w.heap.size w W → W.cell? ⟨0, bc, none⟩ = some (.int .i64 (blkL.getD bc 0))) := fun W hb => (ht.below hb).blk bc hbc
  have HZr : Hid (∀ W, Below w.heap.size w W → W.cell? ⟨1, rc, none⟩ = some (.int .i64 (ratL.getD rc 0))) := fun W hb => (ht.below hb).rat rc hrc
  have HT := Lib.hid ht
  clear ht hc
  generalize depL.getD dc 0 = d at *
  simp only [Hd.val, Hd.cells] at HC Hb0 HB0 ⊢
  go_enter Tryd.func10, Tryd.ntmps10
  go_wp2_with fail
  refine (HC.out _ Hb0.out).mono ?_
  rintro e w1 ⟨rfl, hb1⟩
  have Hb1 := Lib.hid (bnext Hb0.out hb1)
  have HB : Hid (HdAt w1 w.heap.size ⟨V, bc, rc, m, dc, n, b, r, d⟩) := HB0.out.below hb1
  clear HC Hb0 HB0 hb1
  go_wp2_with fail
  refine (New_st (w0 := w1) (Below.refl _ _)).mono ?_
  rintro e w2 ⟨R, rfl, H⟩
  have H2 := Lib.hid H
  clear H
  go_wp2_with fail
  refine (Put_st H2.out 15 32764 (by decide) (by decide) (by decide)).mono ?_
  rintro e w3 ⟨⟨q, rfl⟩, H⟩
  have H3 := Lib.hid H
  clear H H2 
  have f0 := (HB.out.below H3.out.blw).c 0 (.bool V) rfl
  go_wp2_with fail
  refine (bit_any V _).mono ?_
  rintro e wx ⟨rfl, rfl⟩
  go_wp2_with fail
  refine (Put_st H3.out 1 (bitV V) (by cases V <;> decide) (by decide) (by decide)).mono ?_
  rintro e w4 ⟨⟨q, rfl⟩, H⟩
  have H4 := Lib.hid H
  clear H H3 f0
  have f1 := (HB.out.below H4.out.blw).c 1 (.int .i64 bc) rfl
  go_wp2_with fail
  refine (Put_st H4.out 4 bc (by omega) (by decide) (by decide)).mono ?_
  rintro e w5 ⟨⟨q, rfl⟩, H⟩
  have H5 := Lib.hid H
  clear H H4 f1
  have f2 := (HB.out.below H5.out.blw).c 2 (.int .i64 rc) rfl
  go_wp2_with fail
  refine (Put_st H5.out 4 rc (by omega) (by decide) (by decide)).mono ?_
  rintro e w6 ⟨⟨q, rfl⟩, H⟩
  have H6 := Lib.hid H
  clear H H5 f2
  have f3 := (HB.out.below H6.out.blw).c 3 (.int .i64 m) rfl
  go_wp2_with fail
  refine (Put_st H6.out 4 m (by omega) (by decide) (by decide)).mono ?_
  rintro e w7 ⟨⟨q, rfl⟩, H⟩
  have H7 := Lib.hid H
  clear H H6 f3
  have f4 := (HB.out.below H7.out.blw).c 4 (.int .i64 dc) rfl
  go_wp2_with fail
  refine (Put_st H7.out 3 dc (by omega) (by decide) (by decide)).mono ?_
  rintro e w8 ⟨⟨q, rfl⟩, H⟩
  have H8 := Lib.hid H
  clear H H7 f4
  go_wp2_with fail
  refine (Put_st H8.out 1 0 (by decide) (by decide) (by decide)).mono ?_
  rintro e w9 ⟨⟨q, rfl⟩, H⟩
  have H9 := Lib.hid H
  clear H H8 
  have f5 := (HB.out.below H9.out.blw).c 5 (.int .i64 n) rfl
  go_wp2_with fail
  refine (cput_any n hn _ (HT.out.below (bnext Hb1.out H9.out.blw))).mono ?_
  rintro e wc ⟨v, rfl, Hown, hbc0⟩
  obtain ⟨Ac, cc, rfl, -, -⟩ := own_rd Hown.out
  have hcl : (codB n).length ≤ 100 := by have := (C3.szN_pos n).2; rw [codB_length]; omega
  have HA := Lib.hid (Append_st H9.out hbc0 (codB n) _ Hown.out (by decide) hcl)
  clear f5 Hown hbc0 hcl
  go_wp2_with fail
  refine HA.out.mono ?_
  rintro e wa ⟨⟨q, rfl⟩, H⟩
  have Hcs : Hid (C3.szN n ≤ 7) := (C3.szN_pos n).2
  have HS : Hid (St w1 wa R (hdI0 V bc rc m dc n) 200) := ⟨H.wtr, H.blw, H.le, Nat.le_trans H.len (by have h7 := Hcs.out; rw [codB_length]; omega)⟩
  clear H HA H9
  have f1 := (HB.out.below HS.out.blw).c 1 (.int .i64 bc) rfl
  have hz := HZb.out _ (bnext Hb1.out HS.out.blw)
  obtain ⟨pre, hpre⟩ : ∃ pre, hdI0 V bc rc m dc n = pre := ⟨_, rfl⟩
  rw [hpre] at HS HI
  clear hpre
  have hbci : (bc : Int) < 16 := by omega
  have hrci : (rc : Int) < 16 := by omega
  by_cases hb2 : blkL.getD bc 0 = -2
  · rw [hb2] at hz
    rcases blk_behind bc hbc hb2 with rfl | rfl
    · obtain ⟨h1, h2⟩ := of_decide_eq_true (show decide (1 ≤ b ∧ b ≤ 256) = true from hbf)
      obtain ⟨x, rfl⟩ : ∃ x : Nat, b = (x : Int) + 1 := ⟨(b - 1).toNat, by omega⟩
      have hx : x < 256 := by omega
      clear h1 h2 hbf hb2
      have HE : Hid (IB = (pre ++ vb x 8) ++ ratI rc r) := HI.out.trans (by rw [show blkI 6 ((x : Int) + 1) = vb x 8 from by rw [blkI, if_pos rfl, Int.add_sub_cancel, Int.toNat_natCast]])
      have f6 := (HB.out.below HS.out.blw).c 6 (.int .i64 ((x : Int) + 1)) rfl
      go_wp2_with fail
      refine (Put_st HS.out 8 x (by omega) (by decide) (by decide)).mono ?_
      rintro e wt ⟨⟨q, rfl⟩, H⟩
      have HS2 := Lib.hid H
      clear H HS f1 f6 hz
      have f2 := (HB.out.below HS2.out.blw).c 2 (.int .i64 rc) rfl
      have f7 := (HB.out.below HS2.out.blw).c 7 (.int .i64 r) rfl
      have hzr := HZr.out _ (bnext Hb1.out HS2.out.blw)
      by_cases hr2 : ratL.getD rc 0 = -2
      · rw [hr2] at hzr
        obtain ⟨hr0, hrm, hrq⟩ := of_decide_eq_true (show decide (0 ≤ r ∧ r % unU rc = 0 ∧ r / unU rc < 2 ^ unN rc) = true from by rw [← hrf, rFits, Int.toNat_natCast, if_pos hr2])
        rcases rat_behind rc hrc hr2 with rfl | rfl | rfl
        · have hrm' : r % 1000 = 0 := hrm
          have hrq' : r / 1000 < 256 := hrq
          clear hrm hrq hrf
          obtain ⟨y, hy⟩ : ∃ y : Nat, r / 1000 = y := ⟨(r / 1000).toNat, by omega⟩
          have hq2 : r.tdiv 1000 = (y : Int) := by rw [Int.tdiv_eq_ediv_of_nonneg hr0]; exact hy
          have hy8 : y < 256 := by omega
          clear hrm' hrq'
          have HE9 : Hid (IB = _ ++ vb y 8) := HE.out.trans (by rw [ratI]; rw [if_pos rfl, hy, Int.toNat_natCast])
          go_wp2_with fail
          refine (unit_any 12 _).mono ?_
          rintro e wx ⟨rfl, rfl⟩
          have e1 : unU 12 = 1000 := rfl
          have e2 : unN 12 = 8 := rfl
          rw [e1, e2]
          clear e1 e2
          go_wp2_with fail
          refine (Put_st HS2.out 8 y (by omega) (by decide) (by decide)).mono ?_
          rintro e wt ⟨⟨q, rfl⟩, H⟩
          have H9 := Lib.hid H
          clear H HS2 f2 f7 hzr
          go_wp2_with fail
          refine (Bytes_st H9.out (by decide)).mono ?_
          rintro e wb ⟨vv, rfl, Hown, hbb⟩
          obtain ⟨A9, c9, rfl, hc9, hr9⟩ := own_rd Hown.out
          have HF2 : Hid (F = pkL IB ++ [UInt8.ofNat (C2.crc8 0 (pkL IB))]) := HF.out
          rw [← HE9.out] at Hown hr9 hc9 ⊢
          have hIBl : (pkL IB).length ≤ 1000 := by rw [HE9.out, pkL_length]; have := H9.out.len; omega
          have hbbz := hbb.size
          have Hbb := Lib.hid (bnext (bnext Hb1.out H9.out.blw) hbb)
          have Hle := Lib.hid (Nat.le_trans (Nat.le_trans Hb1.out.size H9.out.blw.size) (Nat.le_refl _))
          clear HF HI H9 HE9
          generalize pkL IB = S9 at *
          have hbss : BSS (wb.alloc (.cells #[.slice A9 S9.length c9] 28)) (.slice (some ⟨wb.heap.size, 0, none⟩) 1 1) [S9] :=
            ⟨_, 1, [.slice A9 S9.length c9], rfl, Nat.le_refl _, Rd.new wb #[.slice A9 S9.length c9] _, rfl, fun j x y hx hy => by
              cases j with
              | zero => simp at hx hy; subst hx hy; exact ⟨A9, c9, rfl, hc9, hr9.alloc _⟩
              | succ j => simp at hx⟩
          have HS8 := Lib.hid (C2.Sum8_any [S9] _ 1 _ hbss (by show 1 < _; omega) (by intro l hl; simp at hl; subst hl; omega))
          have Hown2 := Lib.hid (Hown.out.alloc (.cells #[.slice A9 S9.length c9] 28))
          have Hb2 := Lib.hid (bal Hbb.out (.cells #[.slice A9 S9.length c9] 28))
          have hfl : [S9].flatten = S9 := by simp
          rw [hfl] at HS8
          clear hfl hbss hr9 Hown hbb hc9
          have hlt : C2.crc8 0 S9 < 256 := C2.crc8_lt 0 (by decide) S9
          have Hbl : Hid (bv S9 ++ [.int .u8 (C2.crc8 0 S9 : Nat)] = bv F) := by
            show _ = _
            rw [HF2.out, bv_append]
            simp only [bv, List.map_cons, List.map_nil, UInt8.toNat_ofNat']
            rw [Nat.mod_eq_of_lt (show C2.crc8 0 S9 < 2 ^ 8 from hlt)]
          have Hll : Hid (F.length = S9.length + 1) := by show _ = _; rw [HF2.out]; simp
          generalize C2.crc8 0 S9 = s9 at *
          go_wp2_with fail
          refine HS8.out.mono ?_
          rintro e ws ⟨rfl, hbs⟩
          have Hown3 := Lib.hid (ownsRow_below Hown2.out hbs)
          have Hb3 := Lib.hid (bnext Hb2.out hbs)
          have hsz3 := hbs.size
          simp only [World.size_alloc] at hsz3
          have hwl := Hb1.out.size
          clear HS8 Hown2 Hb2 hbs
          have hws : w.heap.size ≤ ws.heap.size := by have := Hle.out; omega
          have hu8 : IntKind.u8.wrap (s9 : Int) = s9 := by rw [IntKind.wrap_u8]; omega
          go_wp2_with (at_builtin; refine app1 (w0 := w) rfl _ _ 28 rfl Tryd.underlying28 C3.info_u8 rfl (by decide) rfl (ownsRow_less Hown3.out Hle.out) (Nat.le_refl _) hws Hb3.out rfl rfl (C3.one_u8 _) (by omega) (by unfold maxLen; omega) ?_; intro v1 w9 own1 hb9 hs9; have Hown9 := Lib.hid own1; clear own1)
          go_ret2
          refine ⟨_, rfl, ?_, hb9⟩
          have h9 := Hown9.out
          rw [show bv S9 ++ (#[Value.int .u8 (s9 : Int)]).toList = bv F from Hbl.out, ← Hll.out] at h9
          exact h9
        · have hrm' : r % 1 = 0 := hrm
          have hrq' : r / 1 < 65536 := hrq
          clear hrm hrq hrf
          obtain ⟨y, rfl⟩ : ∃ y : Nat, r = y := ⟨r.toNat, by omega⟩
          have hy8 : y < 65536 := by omega
          clear hrm' hrq'
          have HE9 : Hid (IB = _ ++ vb y 16) := HE.out.trans (by rw [ratI]; rw [if_neg (by decide), if_pos rfl, Int.toNat_natCast])
          go_wp2_with fail
          refine (unit_any 13 _).mono ?_
          rintro e wx ⟨rfl, rfl⟩
          have e1 : unU 13 = 1 := rfl
          have e2 : unN 13 = 16 := rfl
          rw [e1, e2]
          clear e1 e2
          go_wp2_with fail
          refine (Put_st HS2.out 16 y (by omega) (by decide) (by decide)).mono ?_
          rintro e wt ⟨⟨q, rfl⟩, H⟩
          have H9 := Lib.hid H
          clear H HS2 f2 f7 hzr
          go_wp2_with fail
          refine (Bytes_st H9.out (by decide)).mono ?_
          rintro e wb ⟨vv, rfl, Hown, hbb⟩
          obtain ⟨A9, c9, rfl, hc9, hr9⟩ := own_rd Hown.out
          have HF2 : Hid (F = pkL IB ++ [UInt8.ofNat (C2.crc8 0 (pkL IB))]) := HF.out
          rw [← HE9.out] at Hown hr9 hc9 ⊢
          have hIBl : (pkL IB).length ≤ 1000 := by rw [HE9.out, pkL_length]; have := H9.out.len; omega
          have hbbz := hbb.size
          have Hbb := Lib.hid (bnext (bnext Hb1.out H9.out.blw) hbb)
          have Hle := Lib.hid (Nat.le_trans (Nat.le_trans Hb1.out.size H9.out.blw.size) (Nat.le_refl _))
          clear HF HI H9 HE9
          generalize pkL IB = S9 at *
          have hbss : BSS (wb.alloc (.cells #[.slice A9 S9.length c9] 28)) (.slice (some ⟨wb.heap.size, 0, none⟩) 1 1) [S9] :=
            ⟨_, 1, [.slice A9 S9.length c9], rfl, Nat.le_refl _, Rd.new wb #[.slice A9 S9.length c9] _, rfl, fun j x y hx hy => by
              cases j with
              | zero => simp at hx hy; subst hx hy; exact ⟨A9, c9, rfl, hc9, hr9.alloc _⟩
              | succ j => simp at hx⟩
          have HS8 := Lib.hid (C2.Sum8_any [S9] _ 1 _ hbss (by show 1 < _; omega) (by intro l hl; simp at hl; subst hl; omega))
          have Hown2 := Lib.hid (Hown.out.alloc (.cells #[.slice A9 S9.length c9] 28))
          have Hb2 := Lib.hid (bal Hbb.out (.cells #[.slice A9 S9.length c9] 28))
          have hfl : [S9].flatten = S9 := by simp
          rw [hfl] at HS8
          clear hfl hbss hr9 Hown hbb hc9
          have hlt : C2.crc8 0 S9 < 256 := C2.crc8_lt 0 (by decide) S9
          have Hbl : Hid (bv S9 ++ [.int .u8 (C2.crc8 0 S9 : Nat)] = bv F) := by
            show _ = _
            rw [HF2.out, bv_append]
            simp only [bv, List.map_cons, List.map_nil, UInt8.toNat_ofNat']
            rw [Nat.mod_eq_of_lt (show C2.crc8 0 S9 < 2 ^ 8 from hlt)]
          have Hll : Hid (F.length = S9.length + 1) := by show _ = _; rw [HF2.out]; simp
          generalize C2.crc8 0 S9 = s9 at *
          go_wp2_with fail
          refine HS8.out.mono ?_
          rintro e ws ⟨rfl, hbs⟩
          have Hown3 := Lib.hid (ownsRow_below Hown2.out hbs)
          have Hb3 := Lib.hid (bnext Hb2.out hbs)
          have hsz3 := hbs.size
          simp only [World.size_alloc] at hsz3
          have hwl := Hb1.out.size
          clear HS8 Hown2 Hb2 hbs
          have hws : w.heap.size ≤ ws.heap.size := by have := Hle.out; omega
          have hu8 : IntKind.u8.wrap (s9 : Int) = s9 := by rw [IntKind.wrap_u8]; omega
          go_wp2_with (at_builtin; refine app1 (w0 := w) rfl _ _ 28 rfl Tryd.underlying28 C3.info_u8 rfl (by decide) rfl (ownsRow_less Hown3.out Hle.out) (Nat.le_refl _) hws Hb3.out rfl rfl (C3.one_u8 _) (by omega) (by unfold maxLen; omega) ?_; intro v1 w9 own1 hb9 hs9; have Hown9 := Lib.hid own1; clear own1)
          go_ret2
          refine ⟨_, rfl, ?_, hb9⟩
          have h9 := Hown9.out
          rw [show bv S9 ++ (#[Value.int .u8 (s9 : Int)]).toList = bv F from Hbl.out, ← Hll.out] at h9
          exact h9
        · have hrm' : r % 10 = 0 := hrm
          have hrq' : r / 10 < 65536 := hrq
          clear hrm hrq hrf
          obtain ⟨y, hy⟩ : ∃ y : Nat, r / 10 = y := ⟨(r / 10).toNat, by omega⟩
          have hq2 : r.tdiv 10 = (y : Int) := by rw [Int.tdiv_eq_ediv_of_nonneg hr0]; exact hy
          have hy8 : y < 65536 := by omega
          clear hrm' hrq'
          have HE9 : Hid (IB = _ ++ vb y 16) := HE.out.trans (by rw [ratI]; rw [if_neg (by decide), if_neg (by decide), if_pos rfl, hy, Int.toNat_natCast])
          go_wp2_with fail
          refine (unit_any 14 _).mono ?_
          rintro e wx ⟨rfl, rfl⟩
          have e1 : unU 14 = 10 := rfl
          have e2 : unN 14 = 16 := rfl
          rw [e1, e2]
          clear e1 e2
          go_wp2_with fail
          refine (Put_st HS2.out 16 y (by omega) (by decide) (by decide)).mono ?_
          rintro e wt ⟨⟨q, rfl⟩, H⟩
          have H9 := Lib.hid H
          clear H HS2 f2 f7 hzr
          go_wp2_with fail
          refine (Bytes_st H9.out (by decide)).mono ?_
          rintro e wb ⟨vv, rfl, Hown, hbb⟩
          obtain ⟨A9, c9, rfl, hc9, hr9⟩ := own_rd Hown.out
          have HF2 : Hid (F = pkL IB ++ [UInt8.ofNat (C2.crc8 0 (pkL IB))]) := HF.out
          rw [← HE9.out] at Hown hr9 hc9 ⊢
          have hIBl : (pkL IB).length ≤ 1000 := by rw [HE9.out, pkL_length]; have := H9.out.len; omega
          have hbbz := hbb.size
          have Hbb := Lib.hid (bnext (bnext Hb1.out H9.out.blw) hbb)
          have Hle := Lib.hid (Nat.le_trans (Nat.le_trans Hb1.out.size H9.out.blw.size) (Nat.le_refl _))
          clear HF HI H9 HE9
          generalize pkL IB = S9 at *
          have hbss : BSS (wb.alloc (.cells #[.slice A9 S9.length c9] 28)) (.slice (some ⟨wb.heap.size, 0, none⟩) 1 1) [S9] :=
            ⟨_, 1, [.slice A9 S9.length c9], rfl, Nat.le_refl _, Rd.new wb #[.slice A9 S9.length c9] _, rfl, fun j x y hx hy => by
              cases j with
              | zero => simp at hx hy; subst hx hy; exact ⟨A9, c9, rfl, hc9, hr9.alloc _⟩
              | succ j => simp at hx⟩
          have HS8 := Lib.hid (C2.Sum8_any [S9] _ 1 _ hbss (by show 1 < _; omega) (by intro l hl; simp at hl; subst hl; omega))
          have Hown2 := Lib.hid (Hown.out.alloc (.cells #[.slice A9 S9.length c9] 28))
          have Hb2 := Lib.hid (bal Hbb.out (.cells #[.slice A9 S9.length c9] 28))
          have hfl : [S9].flatten = S9 := by simp
          rw [hfl] at HS8
          clear hfl hbss hr9 Hown hbb hc9
          have hlt : C2.crc8 0 S9 < 256 := C2.crc8_lt 0 (by decide) S9
          have Hbl : Hid (bv S9 ++ [.int .u8 (C2.crc8 0 S9 : Nat)] = bv F) := by
            show _ = _
            rw [HF2.out, bv_append]
            simp only [bv, List.map_cons, List.map_nil, UInt8.toNat_ofNat']
            rw [Nat.mod_eq_of_lt (show C2.crc8 0 S9 < 2 ^ 8 from hlt)]
          have Hll : Hid (F.length = S9.length + 1) := by show _ = _; rw [HF2.out]; simp
          generalize C2.crc8 0 S9 = s9 at *
          go_wp2_with fail
          refine HS8.out.mono ?_
          rintro e ws ⟨rfl, hbs⟩
          have Hown3 := Lib.hid (ownsRow_below Hown2.out hbs)
          have Hb3 := Lib.hid (bnext Hb2.out hbs)
          have hsz3 := hbs.size
          simp only [World.size_alloc] at hsz3
          have hwl := Hb1.out.size
          clear HS8 Hown2 Hb2 hbs
          have hws : w.heap.size ≤ ws.heap.size := by have := Hle.out; omega
          have hu8 : IntKind.u8.wrap (s9 : Int) = s9 := by rw [IntKind.wrap_u8]; omega
          go_wp2_with (at_builtin; refine app1 (w0 := w) rfl _ _ 28 rfl Tryd.underlying28 C3.info_u8 rfl (by decide) rfl (ownsRow_less Hown3.out Hle.out) (Nat.le_refl _) hws Hb3.out rfl rfl (C3.one_u8 _) (by omega) (by unfold maxLen; omega) ?_; intro v1 w9 own1 hb9 hs9; have Hown9 := Lib.hid own1; clear own1)
          go_ret2
          refine ⟨_, rfl, ?_, hb9⟩
          have h9 := Hown9.out
          rw [show bv S9 ++ (#[Value.int .u8 (s9 : Int)]).toList = bv F from Hbl.out, ← Hll.out] at h9
          exact h9
      · have hr2' : (ratL.getD rc 0 == -2) = false := by rw [beq_eq_false_iff_ne]; exact hr2
        have HE9 : Hid (IB = _) := HE.out.trans (by rw [ratI, if_neg (by rintro rfl; exact hr2 rfl), if_neg (by rintro rfl; exact hr2 rfl), if_neg (by rintro rfl; exact hr2 rfl), List.append_nil])
        generalize ratL.getD rc 0 = zr at *
        clear hr2 hrf
        go_wp2_with fail
        refine (unit_any rc _).mono ?_
        rintro e wx ⟨rfl, rfl⟩
        go_wp2_with fail
        clear f2 f7 hzr
        refine (Bytes_st HS2.out (by decide)).mono ?_
        rintro e wb ⟨vv, rfl, Hown, hbb⟩
        obtain ⟨A9, c9, rfl, hc9, hr9⟩ := own_rd Hown.out
        have HF2 : Hid (F = pkL IB ++ [UInt8.ofNat (C2.crc8 0 (pkL IB))]) := HF.out
        rw [← HE9.out] at Hown hr9 hc9 ⊢
        have hIBl : (pkL IB).length ≤ 1000 := by rw [HE9.out, pkL_length]; have := HS2.out.len; omega
        have hbbz := hbb.size
        have Hbb := Lib.hid (bnext (bnext Hb1.out HS2.out.blw) hbb)
        have Hle := Lib.hid (Nat.le_trans (Nat.le_trans Hb1.out.size HS2.out.blw.size) (Nat.le_refl _))
        clear HF HI HS2 HE9
        generalize pkL IB = S9 at *
        have hbss : BSS (wb.alloc (.cells #[.slice A9 S9.length c9] 28)) (.slice (some ⟨wb.heap.size, 0, none⟩) 1 1) [S9] :=
          ⟨_, 1, [.slice A9 S9.length c9], rfl, Nat.le_refl _, Rd.new wb #[.slice A9 S9.length c9] _, rfl, fun j x y hx hy => by
            cases j with
            | zero => simp at hx hy; subst hx hy; exact ⟨A9, c9, rfl, hc9, hr9.alloc _⟩
            | succ j => simp at hx⟩
        have HS8 := Lib.hid (C2.Sum8_any [S9] _ 1 _ hbss (by show 1 < _; omega) (by intro l hl; simp at hl; subst hl; omega))
        have Hown2 := Lib.hid (Hown.out.alloc (.cells #[.slice A9 S9.length c9] 28))
        have Hb2 := Lib.hid (bal Hbb.out (.cells #[.slice A9 S9.length c9] 28))
        have hfl : [S9].flatten = S9 := by simp
        rw [hfl] at HS8
        clear hfl hbss hr9 Hown hbb hc9
        have hlt : C2.crc8 0 S9 < 256 := C2.crc8_lt 0 (by decide) S9
        have Hbl : Hid (bv S9 ++ [.int .u8 (C2.crc8 0 S9 : Nat)] = bv F) := by
          show _ = _
          rw [HF2.out, bv_append]
          simp only [bv, List.map_cons, List.map_nil, UInt8.toNat_ofNat']
          rw [Nat.mod_eq_of_lt (show C2.crc8 0 S9 < 2 ^ 8 from hlt)]
        have Hll : Hid (F.length = S9.length + 1) := by show _ = _; rw [HF2.out]; simp
        generalize C2.crc8 0 S9 = s9 at *
        go_wp2_with fail
        refine HS8.out.mono ?_
        rintro e ws ⟨rfl, hbs⟩
        have Hown3 := Lib.hid (ownsRow_below Hown2.out hbs)
        have Hb3 := Lib.hid (bnext Hb2.out hbs)
        have hsz3 := hbs.size
        simp only [World.size_alloc] at hsz3
        have hwl := Hb1.out.size
        clear HS8 Hown2 Hb2 hbs
        have hws : w.heap.size ≤ ws.heap.size := by have := Hle.out; omega
        have hu8 : IntKind.u8.wrap (s9 : Int) = s9 := by rw [IntKind.wrap_u8]; omega
        go_wp2_with (at_builtin; refine app1 (w0 := w) rfl _ _ 28 rfl Tryd.underlying28 C3.info_u8 rfl (by decide) rfl (ownsRow_less Hown3.out Hle.out) (Nat.le_refl _) hws Hb3.out rfl rfl (C3.one_u8 _) (by omega) (by unfold maxLen; omega) ?_; intro v1 w9 own1 hb9 hs9; have Hown9 := Lib.hid own1; clear own1)
        go_ret2
        refine ⟨_, rfl, ?_, hb9⟩
        have h9 := Hown9.out
        rw [show bv S9 ++ (#[Value.int .u8 (s9 : Int)]).toList = bv F from Hbl.out, ← Hll.out] at h9
        exact h9
    · obtain ⟨h1, h2⟩ := of_decide_eq_true (show decide (1 ≤ b ∧ b ≤ 65535) = true from hbf)
      obtain ⟨x, rfl⟩ : ∃ x : Nat, b = (x : Int) + 1 := ⟨(b - 1).toNat, by omega⟩
      have hx : x < 65535 := by omega
      clear h1 h2 hbf hb2
      have HE : Hid (IB = (pre ++ vb x 16) ++ ratI rc r) := HI.out.trans (by rw [show blkI 7 ((x : Int) + 1) = vb x 16 from by rw [blkI, if_neg (by decide), if_pos rfl, Int.add_sub_cancel, Int.toNat_natCast]])
      have f6 := (HB.out.below HS.out.blw).c 6 (.int .i64 ((x : Int) + 1)) rfl
      go_wp2_with fail
      refine (Put_st HS.out 16 x (by omega) (by decide) (by decide)).mono ?_
      rintro e wt ⟨⟨q, rfl⟩, H⟩
      have HS2 := Lib.hid H
      clear H HS f1 f6 hz
      have f2 := (HB.out.below HS2.out.blw).c 2 (.int .i64 rc) rfl
      have f7 := (HB.out.below HS2.out.blw).c 7 (.int .i64 r) rfl
      have hzr := HZr.out _ (bnext Hb1.out HS2.out.blw)
      by_cases hr2 : ratL.getD rc 0 = -2
      · rw [hr2] at hzr
        obtain ⟨hr0, hrm, hrq⟩ := of_decide_eq_true (show decide (0 ≤ r ∧ r % unU rc = 0 ∧ r / unU rc < 2 ^ unN rc) = true from by rw [← hrf, rFits, Int.toNat_natCast, if_pos hr2])
        rcases rat_behind rc hrc hr2 with rfl | rfl | rfl
        · have hrm' : r % 1000 = 0 := hrm
          have hrq' : r / 1000 < 256 := hrq
          clear hrm hrq hrf
          obtain ⟨y, hy⟩ : ∃ y : Nat, r / 1000 = y := ⟨(r / 1000).toNat, by omega⟩
          have hq2 : r.tdiv 1000 = (y : Int) := by rw [Int.tdiv_eq_ediv_of_nonneg hr0]; exact hy
          have hy8 : y < 256 := by omega
          clear hrm' hrq'
          have HE9 : Hid (IB = _ ++ vb y 8) := HE.out.trans (by rw [ratI]; rw [if_pos rfl, hy, Int.toNat_natCast])
          go_wp2_with fail
          refine (unit_any 12 _).mono ?_
          rintro e wx ⟨rfl, rfl⟩
          have e1 : unU 12 = 1000 := rfl
          have e2 : unN 12 = 8 := rfl
          rw [e1, e2]
          clear e1 e2
          go_wp2_with fail
          refine (Put_st HS2.out 8 y (by omega) (by decide) (by decide)).mono ?_
          rintro e wt ⟨⟨q, rfl⟩, H⟩
          have H9 := Lib.hid H
          clear H HS2 f2 f7 hzr
          go_wp2_with fail
          refine (Bytes_st H9.out (by decide)).mono ?_
          rintro e wb ⟨vv, rfl, Hown, hbb⟩
          obtain ⟨A9, c9, rfl, hc9, hr9⟩ := own_rd Hown.out
          have HF2 : Hid (F = pkL IB ++ [UInt8.ofNat (C2.crc8 0 (pkL IB))]) := HF.out
          rw [← HE9.out] at Hown hr9 hc9 ⊢
          have hIBl : (pkL IB).length ≤ 1000 := by rw [HE9.out, pkL_length]; have := H9.out.len; omega
          have hbbz := hbb.size
          have Hbb := Lib.hid (bnext (bnext Hb1.out H9.out.blw) hbb)
          have Hle := Lib.hid (Nat.le_trans (Nat.le_trans Hb1.out.size H9.out.blw.size) (Nat.le_refl _))
          clear HF HI H9 HE9
          generalize pkL IB = S9 at *
          have hbss : BSS (wb.alloc (.cells #[.slice A9 S9.length c9] 28)) (.slice (some ⟨wb.heap.size, 0, none⟩) 1 1) [S9] :=
            ⟨_, 1, [.slice A9 S9.length c9], rfl, Nat.le_refl _, Rd.new wb #[.slice A9 S9.length c9] _, rfl, fun j x y hx hy => by
              cases j with
              | zero => simp at hx hy; subst hx hy; exact ⟨A9, c9, rfl, hc9, hr9.alloc _⟩
              | succ j => simp at hx⟩
          have HS8 := Lib.hid (C2.Sum8_any [S9] _ 1 _ hbss (by show 1 < _; omega) (by intro l hl; simp at hl; subst hl; omega))
          have Hown2 := Lib.hid (Hown.out.alloc (.cells #[.slice A9 S9.length c9] 28))
          have Hb2 := Lib.hid (bal Hbb.out (.cells #[.slice A9 S9.length c9] 28))
          have hfl : [S9].flatten = S9 := by simp
          rw [hfl] at HS8
          clear hfl hbss hr9 Hown hbb hc9
          have hlt : C2.crc8 0 S9 < 256 := C2.crc8_lt 0 (by decide) S9
          have Hbl : Hid (bv S9 ++ [.int .u8 (C2.crc8 0 S9 : Nat)] = bv F) := by
            show _ = _
            rw [HF2.out, bv_append]
            simp only [bv, List.map_cons, List.map_nil, UInt8.toNat_ofNat']
            rw [Nat.mod_eq_of_lt (show C2.crc8 0 S9 < 2 ^ 8 from hlt)]
          have Hll : Hid (F.length = S9.length + 1) := by show _ = _; rw [HF2.out]; simp
          generalize C2.crc8 0 S9 = s9 at *
          go_wp2_with fail
          refine HS8.out.mono ?_
          rintro e ws ⟨rfl, hbs⟩
          have Hown3 := Lib.hid (ownsRow_below Hown2.out hbs)
          have Hb3 := Lib.hid (bnext Hb2.out hbs)
          have hsz3 := hbs.size
          simp only [World.size_alloc] at hsz3
          have hwl := Hb1.out.size
          clear HS8 Hown2 Hb2 hbs
          have hws : w.heap.size ≤ ws.heap.size := by have := Hle.out; omega
          have hu8 : IntKind.u8.wrap (s9 : Int) = s9 := by rw [IntKind.wrap_u8]; omega
          go_wp2_with (at_builtin; refine app1 (w0 := w) rfl _ _ 28 rfl Tryd.underlying28 C3.info_u8 rfl (by decide) rfl (ownsRow_less Hown3.out Hle.out) (Nat.le_refl _) hws Hb3.out rfl rfl (C3.one_u8 _) (by omega) (by unfold maxLen; omega) ?_; intro v1 w9 own1 hb9 hs9; have Hown9 := Lib.hid own1; clear own1)
          go_ret2
          refine ⟨_, rfl, ?_, hb9⟩
          have h9 := Hown9.out
          rw [show bv S9 ++ (#[Value.int .u8 (s9 : Int)]).toList = bv F from Hbl.out, ← Hll.out] at h9
          exact h9
        · have hrm' : r % 1 = 0 := hrm
          have hrq' : r / 1 < 65536 := hrq
          clear hrm hrq hrf
          obtain ⟨y, rfl⟩ : ∃ y : Nat, r = y := ⟨r.toNat, by omega⟩
          have hy8 : y < 65536 := by omega
          clear hrm' hrq'
          have HE9 : Hid (IB = _ ++ vb y 16) := HE.out.trans (by rw [ratI]; rw [if_neg (by decide), if_pos rfl, Int.toNat_natCast])
          go_wp2_with fail
          refine (unit_any 13 _).mono ?_
          rintro e wx ⟨rfl, rfl⟩
          have e1 : unU 13 = 1 := rfl
          have e2 : unN 13 = 16 := rfl
          rw [e1, e2]
          clear e1 e2
          go_wp2_with fail
          refine (Put_st HS2.out 16 y (by omega) (by decide) (by decide)).mono ?_
          rintro e wt ⟨⟨q, rfl⟩, H⟩
          have H9 := Lib.hid H
          clear H HS2 f2 f7 hzr
          go_wp2_with fail
          refine (Bytes_st H9.out (by decide)).mono ?_
          rintro e wb ⟨vv, rfl, Hown, hbb⟩
          obtain ⟨A9, c9, rfl, hc9, hr9⟩ := own_rd Hown.out
          have HF2 : Hid (F = pkL IB ++ [UInt8.ofNat (C2.crc8 0 (pkL IB))]) := HF.out
          rw [← HE9.out] at Hown hr9 hc9 ⊢
          have hIBl : (pkL IB).length ≤ 1000 := by rw [HE9.out, pkL_length]; have := H9.out.len; omega
          have hbbz := hbb.size
          have Hbb := Lib.hid (bnext (bnext Hb1.out H9.out.blw) hbb)
          have Hle := Lib.hid (Nat.le_trans (Nat.le_trans Hb1.out.size H9.out.blw.size) (Nat.le_refl _))
          clear HF HI H9 HE9
          generalize pkL IB = S9 at *
          have hbss : BSS (wb.alloc (.cells #[.slice A9 S9.length c9] 28)) (.slice (some ⟨wb.heap.size, 0, none⟩) 1 1) [S9] :=
            ⟨_, 1, [.slice A9 S9.length c9], rfl, Nat.le_refl _, Rd.new wb #[.slice A9 S9.length c9] _, rfl, fun j x y hx hy => by
              cases j with
              | zero => simp at hx hy; subst hx hy; exact ⟨A9, c9, rfl, hc9, hr9.alloc _⟩
              | succ j => simp at hx⟩
          have HS8 := Lib.hid (C2.Sum8_any [S9] _ 1 _ hbss (by show 1 < _; omega) (by intro l hl; simp at hl; subst hl; omega))
          have Hown2 := Lib.hid (Hown.out.alloc (.cells #[.slice A9 S9.length c9] 28))
          have Hb2 := Lib.hid (bal Hbb.out (.cells #[.slice A9 S9.length c9] 28))
          have hfl : [S9].flatten = S9 := by simp
          rw [hfl] at HS8
          clear hfl hbss hr9 Hown hbb hc9
          have hlt : C2.crc8 0 S9 < 256 := C2.crc8_lt 0 (by decide) S9
          have Hbl : Hid (bv S9 ++ [.int .u8 (C2.crc8 0 S9 : Nat)] = bv F) := by
            show _ = _
            rw [HF2.out, bv_append]
            simp only [bv, List.map_cons, List.map_nil, UInt8.toNat_ofNat']
            rw [Nat.mod_eq_of_lt (show C2.crc8 0 S9 < 2 ^ 8 from hlt)]
          have Hll : Hid (F.length = S9.length + 1) := by show _ = _; rw [HF2.out]; simp
          generalize C2.crc8 0 S9 = s9 at *
          go_wp2_with fail
          refine HS8.out.mono ?_
          rintro e ws ⟨rfl, hbs⟩
          have Hown3 := Lib.hid (ownsRow_below Hown2.out hbs)
          have Hb3 := Lib.hid (bnext Hb2.out hbs)
          have hsz3 := hbs.size
          simp only [World.size_alloc] at hsz3
          have hwl := Hb1.out.size
          clear HS8 Hown2 Hb2 hbs
          have hws : w.heap.size ≤ ws.heap.size := by have := Hle.out; omega
          have hu8 : IntKind.u8.wrap (s9 : Int) = s9 := by rw [IntKind.wrap_u8]; omega
          go_wp2_with (at_builtin; refine app1 (w0 := w) rfl _ _ 28 rfl Tryd.underlying28 C3.info_u8 rfl (by decide) rfl (ownsRow_less Hown3.out Hle.out) (Nat.le_refl _) hws Hb3.out rfl rfl (C3.one_u8 _) (by omega) (by unfold maxLen; omega) ?_; intro v1 w9 own1 hb9 hs9; have Hown9 := Lib.hid own1; clear own1)
          go_ret2
          refine ⟨_, rfl, ?_, hb9⟩
          have h9 := Hown9.out
          rw [show bv S9 ++ (#[Value.int .u8 (s9 : Int)]).toList = bv F from Hbl.out, ← Hll.out] at h9
          exact h9
        · have hrm' : r % 10 = 0 := hrm
          have hrq' : r / 10 < 65536 := hrq
          clear hrm hrq hrf
          obtain ⟨y, hy⟩ : ∃ y : Nat, r / 10 = y := ⟨(r / 10).toNat, by omega⟩
          have hq2 : r.tdiv 10 = (y : Int) := by rw [Int.tdiv_eq_ediv_of_nonneg hr0]; exact hy
          have hy8 : y < 65536 := by omega
          clear hrm' hrq'
          have HE9 : Hid (IB = _ ++ vb y 16) := HE.out.trans (by rw [ratI]; rw [if_neg (by decide), if_neg (by decide), if_pos rfl, hy, Int.toNat_natCast])
          go_wp2_with fail
          refine (unit_any 14 _).mono ?_
          rintro e wx ⟨rfl, rfl⟩
          have e1 : unU 14 = 10 := rfl
          have e2 : unN 14 = 16 := rfl
          rw [e1, e2]
          clear e1 e2
          go_wp2_with fail
          refine (Put_st HS2.out 16 y (by omega) (by decide) (by decide)).mono ?_
          rintro e wt ⟨⟨q, rfl⟩, H⟩
          have H9 := Lib.hid H
          clear H HS2 f2 f7 hzr
          go_wp2_with fail
          refine (Bytes_st H9.out (by decide)).mono ?_
          rintro e wb ⟨vv, rfl, Hown, hbb⟩
          obtain ⟨A9, c9, rfl, hc9, hr9⟩ := own_rd Hown.out
          have HF2 : Hid (F = pkL IB ++ [UInt8.ofNat (C2.crc8 0 (pkL IB))]) := HF.out
          rw [← HE9.out] at Hown hr9 hc9 ⊢
          have hIBl : (pkL IB).length ≤ 1000 := by rw [HE9.out, pkL_length]; have := H9.out.len; omega
          have hbbz := hbb.size
          have Hbb := Lib.hid (bnext (bnext Hb1.out H9.out.blw) hbb)
          have Hle := Lib.hid (Nat.le_trans (Nat.le_trans Hb1.out.size H9.out.blw.size) (Nat.le_refl _))
          clear HF HI H9 HE9
          generalize pkL IB = S9 at *
          have hbss : BSS (wb.alloc (.cells #[.slice A9 S9.length c9] 28)) (.slice (some ⟨wb.heap.size, 0, none⟩) 1 1) [S9] :=
            ⟨_, 1, [.slice A9 S9.length c9], rfl, Nat.le_refl _, Rd.new wb #[.slice A9 S9.length c9] _, rfl, fun j x y hx hy => by
              cases j with
              | zero => simp at hx hy; subst hx hy; exact ⟨A9, c9, rfl, hc9, hr9.alloc _⟩
              | succ j => simp at hx⟩
          have HS8 := Lib.hid (C2.Sum8_any [S9] _ 1 _ hbss (by show 1 < _; omega) (by intro l hl; simp at hl; subst hl; omega))
          have Hown2 := Lib.hid (Hown.out.alloc (.cells #[.slice A9 S9.length c9] 28))
          have Hb2 := Lib.hid (bal Hbb.out (.cells #[.slice A9 S9.length c9] 28))
          have hfl : [S9].flatten = S9 := by simp
          rw [hfl] at HS8
          clear hfl hbss hr9 Hown hbb hc9
          have hlt : C2.crc8 0 S9 < 256 := C2.crc8_lt 0 (by decide) S9
          have Hbl : Hid (bv S9 ++ [.int .u8 (C2.crc8 0 S9 : Nat)] = bv F) := by
            show _ = _
            rw [HF2.out, bv_append]
            simp only [bv, List.map_cons, List.map_nil, UInt8.toNat_ofNat']
            rw [Nat.mod_eq_of_lt (show C2.crc8 0 S9 < 2 ^ 8 from hlt)]
          have Hll : Hid (F.length = S9.length + 1) := by show _ = _; rw [HF2.out]; simp
          generalize C2.crc8 0 S9 = s9 at *
          go_wp2_with fail
          refine HS8.out.mono ?_
          rintro e ws ⟨rfl, hbs⟩
          have Hown3 := Lib.hid (ownsRow_below Hown2.out hbs)
          have Hb3 := Lib.hid (bnext Hb2.out hbs)
          have hsz3 := hbs.size
          simp only [World.size_alloc] at hsz3
          have hwl := Hb1.out.size
          clear HS8 Hown2 Hb2 hbs
          have hws : w.heap.size ≤ ws.heap.size := by have := Hle.out; omega
          have hu8 : IntKind.u8.wrap (s9 : Int) = s9 := by rw [IntKind.wrap_u8]; omega
          go_wp2_with (at_builtin; refine app1 (w0 := w) rfl _ _ 28 rfl Tryd.underlying28 C3.info_u8 rfl (by decide) rfl (ownsRow_less Hown3.out Hle.out) (Nat.le_refl _) hws Hb3.out rfl rfl (C3.one_u8 _) (by omega) (by unfold maxLen; omega) ?_; intro v1 w9 own1 hb9 hs9; have Hown9 := Lib.hid own1; clear own1)
          go_ret2
          refine ⟨_, rfl, ?_, hb9⟩
          have h9 := Hown9.out
          rw [show bv S9 ++ (#[Value.int .u8 (s9 : Int)]).toList = bv F from Hbl.out, ← Hll.out] at h9
          exact h9
      · have hr2' : (ratL.getD rc 0 == -2) = false := by rw [beq_eq_false_iff_ne]; exact hr2
        have HE9 : Hid (IB = _) := HE.out.trans (by rw [ratI, if_neg (by rintro rfl; exact hr2 rfl), if_neg (by rintro rfl; exact hr2 rfl), if_neg (by rintro rfl; exact hr2 rfl), List.append_nil])
        generalize ratL.getD rc 0 = zr at *
        clear hr2 hrf
        go_wp2_with fail
        refine (unit_any rc _).mono ?_
        rintro e wx ⟨rfl, rfl⟩
        go_wp2_with fail
        clear f2 f7 hzr
        refine (Bytes_st HS2.out (by decide)).mono ?_
        rintro e wb ⟨vv, rfl, Hown, hbb⟩
        obtain ⟨A9, c9, rfl, hc9, hr9⟩ := own_rd Hown.out
        have HF2 : Hid (F = pkL IB ++ [UInt8.ofNat (C2.crc8 0 (pkL IB))]) := HF.out
        rw [← HE9.out] at Hown hr9 hc9 ⊢
        have hIBl : (pkL IB).length ≤ 1000 := by rw [HE9.out, pkL_length]; have := HS2.out.len; omega
        have hbbz := hbb.size
        have Hbb := Lib.hid (bnext (bnext Hb1.out HS2.out.blw) hbb)
        have Hle := Lib.hid (Nat.le_trans (Nat.le_trans Hb1.out.size HS2.out.blw.size) (Nat.le_refl _))
        clear HF HI HS2 HE9
        generalize pkL IB = S9 at *
        have hbss : BSS (wb.alloc (.cells #[.slice A9 S9.length c9] 28)) (.slice (some ⟨wb.heap.size, 0, none⟩) 1 1) [S9] :=
          ⟨_, 1, [.slice A9 S9.length c9], rfl, Nat.le_refl _, Rd.new wb #[.slice A9 S9.length c9] _, rfl, fun j x y hx hy => by
            cases j with
            | zero => simp at hx hy; subst hx hy; exact ⟨A9, c9, rfl, hc9, hr9.alloc _⟩
            | succ j => simp at hx⟩
        have HS8 := Lib.hid (C2.Sum8_any [S9] _ 1 _ hbss (by show 1 < _; omega) (by intro l hl; simp at hl; subst hl; omega))
        have Hown2 := Lib.hid (Hown.out.alloc (.cells #[.slice A9 S9.length c9] 28))
        have Hb2 := Lib.hid (bal Hbb.out (.cells #[.slice A9 S9.length c9] 28))
        have hfl : [S9].flatten = S9 := by simp
        rw [hfl] at HS8
        clear hfl hbss hr9 Hown hbb hc9
        have hlt : C2.crc8 0 S9 < 256 := C2.crc8_lt 0 (by decide) S9
        have Hbl : Hid (bv S9 ++ [.int .u8 (C2.crc8 0 S9 : Nat)] = bv F) := by
          show _ = _
          rw [HF2.out, bv_append]
          simp only [bv, List.map_cons, List.map_nil, UInt8.toNat_ofNat']
          rw [Nat.mod_eq_of_lt (show C2.crc8 0 S9 < 2 ^ 8 from hlt)]
        have Hll : Hid (F.length = S9.length + 1) := by show _ = _; rw [HF2.out]; simp
        generalize C2.crc8 0 S9 = s9 at *
        go_wp2_with fail
        refine HS8.out.mono ?_
        rintro e ws ⟨rfl, hbs⟩
        have Hown3 := Lib.hid (ownsRow_below Hown2.out hbs)
        have Hb3 := Lib.hid (bnext Hb2.out hbs)
        have hsz3 := hbs.size
        simp only [World.size_alloc] at hsz3
        have hwl := Hb1.out.size
        clear HS8 Hown2 Hb2 hbs
        have hws : w.heap.size ≤ ws.heap.size := by have := Hle.out; omega
        have hu8 : IntKind.u8.wrap (s9 : Int) = s9 := by rw [IntKind.wrap_u8]; omega
        go_wp2_with (at_builtin; refine app1 (w0 := w) rfl _ _ 28 rfl Tryd.underlying28 C3.info_u8 rfl (by decide) rfl (ownsRow_less Hown3.out Hle.out) (Nat.le_refl _) hws Hb3.out rfl rfl (C3.one_u8 _) (by omega) (by unfold maxLen; omega) ?_; intro v1 w9 own1 hb9 hs9; have Hown9 := Lib.hid own1; clear own1)
        go_ret2
        refine ⟨_, rfl, ?_, hb9⟩
        have h9 := Hown9.out
        rw [show bv S9 ++ (#[Value.int .u8 (s9 : Int)]).toList = bv F from Hbl.out, ← Hll.out] at h9
        exact h9
  · have hb2' : (blkL.getD bc 0 == -2) = false := by rw [beq_eq_false_iff_ne]; exact hb2
    have HE : Hid (IB = pre ++ ratI rc r) := HI.out.trans (by rw [blkI, if_neg (by rintro rfl; exact hb2 rfl), if_neg (by rintro rfl; exact hb2 rfl), List.append_nil])
    generalize blkL.getD bc 0 = zb at *
    clear hb2
    have f2 := (HB.out.below HS.out.blw).c 2 (.int .i64 rc) rfl
    have f7 := (HB.out.below HS.out.blw).c 7 (.int .i64 r) rfl
    have hzr := HZr.out _ (bnext Hb1.out HS.out.blw)
    by_cases hr2 : ratL.getD rc 0 = -2
    · rw [hr2] at hzr
      obtain ⟨hr0, hrm, hrq⟩ := of_decide_eq_true (show decide (0 ≤ r ∧ r % unU rc = 0 ∧ r / unU rc < 2 ^ unN rc) = true from by rw [← hrf, rFits, Int.toNat_natCast, if_pos hr2])
      rcases rat_behind rc hrc hr2 with rfl | rfl | rfl
      · have hrm' : r % 1000 = 0 := hrm
        have hrq' : r / 1000 < 256 := hrq
        clear hrm hrq hrf
        obtain ⟨y, hy⟩ : ∃ y : Nat, r / 1000 = y := ⟨(r / 1000).toNat, by omega⟩
        have hq2 : r.tdiv 1000 = (y : Int) := by rw [Int.tdiv_eq_ediv_of_nonneg hr0]; exact hy
        have hy8 : y < 256 := by omega
        clear hrm' hrq'
        have HE9 : Hid (IB = _ ++ vb y 8) := HE.out.trans (by rw [ratI]; rw [if_pos rfl, hy, Int.toNat_natCast])
        go_wp2_with fail
        refine (unit_any 12 _).mono ?_
        rintro e wx ⟨rfl, rfl⟩
        have e1 : unU 12 = 1000 := rfl
        have e2 : unN 12 = 8 := rfl
        rw [e1, e2]
        clear e1 e2
        go_wp2_with fail
        refine (Put_st HS.out 8 y (by omega) (by decide) (by decide)).mono ?_
        rintro e wt ⟨⟨q, rfl⟩, H⟩
        have H9 := Lib.hid H
        clear H HS f2 f7 hzr
        go_wp2_with fail
        refine (Bytes_st H9.out (by decide)).mono ?_
        rintro e wb ⟨vv, rfl, Hown, hbb⟩
        obtain ⟨A9, c9, rfl, hc9, hr9⟩ := own_rd Hown.out
        have HF2 : Hid (F = pkL IB ++ [UInt8.ofNat (C2.crc8 0 (pkL IB))]) := HF.out
        rw [← HE9.out] at Hown hr9 hc9 ⊢
        have hIBl : (pkL IB).length ≤ 1000 := by rw [HE9.out, pkL_length]; have := H9.out.len; omega
        have hbbz := hbb.size
        have Hbb := Lib.hid (bnext (bnext Hb1.out H9.out.blw) hbb)
        have Hle := Lib.hid (Nat.le_trans (Nat.le_trans Hb1.out.size H9.out.blw.size) (Nat.le_refl _))
        clear HF HI H9 HE9
        generalize pkL IB = S9 at *
        have hbss : BSS (wb.alloc (.cells #[.slice A9 S9.length c9] 28)) (.slice (some ⟨wb.heap.size, 0, none⟩) 1 1) [S9] :=
          ⟨_, 1, [.slice A9 S9.length c9], rfl, Nat.le_refl _, Rd.new wb #[.slice A9 S9.length c9] _, rfl, fun j x y hx hy => by
            cases j with
            | zero => simp at hx hy; subst hx hy; exact ⟨A9, c9, rfl, hc9, hr9.alloc _⟩
            | succ j => simp at hx⟩
        have HS8 := Lib.hid (C2.Sum8_any [S9] _ 1 _ hbss (by show 1 < _; omega) (by intro l hl; simp at hl; subst hl; omega))
        have Hown2 := Lib.hid (Hown.out.alloc (.cells #[.slice A9 S9.length c9] 28))
        have Hb2 := Lib.hid (bal Hbb.out (.cells #[.slice A9 S9.length c9] 28))
        have hfl : [S9].flatten = S9 := by simp
        rw [hfl] at HS8
        clear hfl hbss hr9 Hown hbb hc9
        have hlt : C2.crc8 0 S9 < 256 := C2.crc8_lt 0 (by decide) S9
        have Hbl : Hid (bv S9 ++ [.int .u8 (C2.crc8 0 S9 : Nat)] = bv F) := by
          show _ = _
          rw [HF2.out, bv_append]
          simp only [bv, List.map_cons, List.map_nil, UInt8.toNat_ofNat']
          rw [Nat.mod_eq_of_lt (show C2.crc8 0 S9 < 2 ^ 8 from hlt)]
        have Hll : Hid (F.length = S9.length + 1) := by show _ = _; rw [HF2.out]; simp
        generalize C2.crc8 0 S9 = s9 at *
        go_wp2_with fail
        refine HS8.out.mono ?_
        rintro e ws ⟨rfl, hbs⟩
        have Hown3 := Lib.hid (ownsRow_below Hown2.out hbs)
        have Hb3 := Lib.hid (bnext Hb2.out hbs)
        have hsz3 := hbs.size
        simp only [World.size_alloc] at hsz3
        have hwl := Hb1.out.size
        clear HS8 Hown2 Hb2 hbs
        have hws : w.heap.size ≤ ws.heap.size := by have := Hle.out; omega
        have hu8 : IntKind.u8.wrap (s9 : Int) = s9 := by rw [IntKind.wrap_u8]; omega
        go_wp2_with (at_builtin; refine app1 (w0 := w) rfl _ _ 28 rfl Tryd.underlying28 C3.info_u8 rfl (by decide) rfl (ownsRow_less Hown3.out Hle.out) (Nat.le_refl _) hws Hb3.out rfl rfl (C3.one_u8 _) (by omega) (by unfold maxLen; omega) ?_; intro v1 w9 own1 hb9 hs9; have Hown9 := Lib.hid own1; clear own1)
        go_ret2
        refine ⟨_, rfl, ?_, hb9⟩
        have h9 := Hown9.out
        rw [show bv S9 ++ (#[Value.int .u8 (s9 : Int)]).toList = bv F from Hbl.out, ← Hll.out] at h9
        exact h9
      · have hrm' : r % 1 = 0 := hrm
        have hrq' : r / 1 < 65536 := hrq
        clear hrm hrq hrf
        obtain ⟨y, rfl⟩ : ∃ y : Nat, r = y := ⟨r.toNat, by omega⟩
        have hy8 : y < 65536 := by omega
        clear hrm' hrq'
        have HE9 : Hid (IB = _ ++ vb y 16) := HE.out.trans (by rw [ratI]; rw [if_neg (by decide), if_pos rfl, Int.toNat_natCast])
        go_wp2_with fail
        refine (unit_any 13 _).mono ?_
        rintro e wx ⟨rfl, rfl⟩
        have e1 : unU 13 = 1 := rfl
        have e2 : unN 13 = 16 := rfl
        rw [e1, e2]
        clear e1 e2
        go_wp2_with fail
        refine (Put_st HS.out 16 y (by omega) (by decide) (by decide)).mono ?_
        rintro e wt ⟨⟨q, rfl⟩, H⟩
        have H9 := Lib.hid H
        clear H HS f2 f7 hzr
        go_wp2_with fail
        refine (Bytes_st H9.out (by decide)).mono ?_
        rintro e wb ⟨vv, rfl, Hown, hbb⟩
        obtain ⟨A9, c9, rfl, hc9, hr9⟩ := own_rd Hown.out
        have HF2 : Hid (F = pkL IB ++ [UInt8.ofNat (C2.crc8 0 (pkL IB))]) := HF.out
        rw [← HE9.out] at Hown hr9 hc9 ⊢
        have hIBl : (pkL IB).length ≤ 1000 := by rw [HE9.out, pkL_length]; have := H9.out.len; omega
        have hbbz := hbb.size
        have Hbb := Lib.hid (bnext (bnext Hb1.out H9.out.blw) hbb)
        have Hle := Lib.hid (Nat.le_trans (Nat.le_trans Hb1.out.size H9.out.blw.size) (Nat.le_refl _))
        clear HF HI H9 HE9
        generalize pkL IB = S9 at *
        have hbss : BSS (wb.alloc (.cells #[.slice A9 S9.length c9] 28)) (.slice (some ⟨wb.heap.size, 0, none⟩) 1 1) [S9] :=
          ⟨_, 1, [.slice A9 S9.length c9], rfl, Nat.le_refl _, Rd.new wb #[.slice A9 S9.length c9] _, rfl, fun j x y hx hy => by
            cases j with
            | zero => simp at hx hy; subst hx hy; exact ⟨A9, c9, rfl, hc9, hr9.alloc _⟩
            | succ j => simp at hx⟩
        have HS8 := Lib.hid (C2.Sum8_any [S9] _ 1 _ hbss (by show 1 < _; omega) (by intro l hl; simp at hl; subst hl; omega))
        have Hown2 := Lib.hid (Hown.out.alloc (.cells #[.slice A9 S9.length c9] 28))
        have Hb2 := Lib.hid (bal Hbb.out (.cells #[.slice A9 S9.length c9] 28))
        have hfl : [S9].flatten = S9 := by simp
        rw [hfl] at HS8
        clear hfl hbss hr9 Hown hbb hc9
        have hlt : C2.crc8 0 S9 < 256 := C2.crc8_lt 0 (by decide) S9
        have Hbl : Hid (bv S9 ++ [.int .u8 (C2.crc8 0 S9 : Nat)] = bv F) := by
          show _ = _
          rw [HF2.out, bv_append]
          simp only [bv, List.map_cons, List.map_nil, UInt8.toNat_ofNat']
          rw [Nat.mod_eq_of_lt (show C2.crc8 0 S9 < 2 ^ 8 from hlt)]
        have Hll : Hid (F.length = S9.length + 1) := by show _ = _; rw [HF2.out]; simp
        generalize C2.crc8 0 S9 = s9 at *
        go_wp2_with fail
        refine HS8.out.mono ?_
        rintro e ws ⟨rfl, hbs⟩
        have Hown3 := Lib.hid (ownsRow_below Hown2.out hbs)
        have Hb3 := Lib.hid (bnext Hb2.out hbs)
        have hsz3 := hbs.size
        simp only [World.size_alloc] at hsz3
        have hwl := Hb1.out.size
        clear HS8 Hown2 Hb2 hbs
        have hws : w.heap.size ≤ ws.heap.size := by have := Hle.out; omega
        have hu8 : IntKind.u8.wrap (s9 : Int) = s9 := by rw [IntKind.wrap_u8]; omega
        go_wp2_with (at_builtin; refine app1 (w0 := w) rfl _ _ 28 rfl Tryd.underlying28 C3.info_u8 rfl (by decide) rfl (ownsRow_less Hown3.out Hle.out) (Nat.le_refl _) hws Hb3.out rfl rfl (C3.one_u8 _) (by omega) (by unfold maxLen; omega) ?_; intro v1 w9 own1 hb9 hs9; have Hown9 := Lib.hid own1; clear own1)
        go_ret2
        refine ⟨_, rfl, ?_, hb9⟩
        have h9 := Hown9.out
        rw [show bv S9 ++ (#[Value.int .u8 (s9 : Int)]).toList = bv F from Hbl.out, ← Hll.out] at h9
        exact h9
      · have hrm' : r % 10 = 0 := hrm
        have hrq' : r / 10 < 65536 := hrq
        clear hrm hrq hrf
        obtain ⟨y, hy⟩ : ∃ y : Nat, r / 10 = y := ⟨(r / 10).toNat, by omega⟩
        have hq2 : r.tdiv 10 = (y : Int) := by rw [Int.tdiv_eq_ediv_of_nonneg hr0]; exact hy
        have hy8 : y < 65536 := by omega
        clear hrm' hrq'
        have HE9 : Hid (IB = _ ++ vb y 16) := HE.out.trans (by rw [ratI]; rw [if_neg (by decide), if_neg (by decide), if_pos rfl, hy, Int.toNat_natCast])
        go_wp2_with fail
        refine (unit_any 14 _).mono ?_
        rintro e wx ⟨rfl, rfl⟩
        have e1 : unU 14 = 10 := rfl
        have e2 : unN 14 = 16 := rfl
        rw [e1, e2]
        clear e1 e2
        go_wp2_with fail
        refine (Put_st HS.out 16 y (by omega) (by decide) (by decide)).mono ?_
        rintro e wt ⟨⟨q, rfl⟩, H⟩
        have H9 := Lib.hid H
        clear H HS f2 f7 hzr
        go_wp2_with fail
        refine (Bytes_st H9.out (by decide)).mono ?_
        rintro e wb ⟨vv, rfl, Hown, hbb⟩
        obtain ⟨A9, c9, rfl, hc9, hr9⟩ := own_rd Hown.out
        have HF2 : Hid (F = pkL IB ++ [UInt8.ofNat (C2.crc8 0 (pkL IB))]) := HF.out
        rw [← HE9.out] at Hown hr9 hc9 ⊢
        have hIBl : (pkL IB).length ≤ 1000 := by rw [HE9.out, pkL_length]; have := H9.out.len; omega
        have hbbz := hbb.size
        have Hbb := Lib.hid (bnext (bnext Hb1.out H9.out.blw) hbb)
        have Hle := Lib.hid (Nat.le_trans (Nat.le_trans Hb1.out.size H9.out.blw.size) (Nat.le_refl _))
        clear HF HI H9 HE9
        generalize pkL IB = S9 at *
        have hbss : BSS (wb.alloc (.cells #[.slice A9 S9.length c9] 28)) (.slice (some ⟨wb.heap.size, 0, none⟩) 1 1) [S9] :=
          ⟨_, 1, [.slice A9 S9.length c9], rfl, Nat.le_refl _, Rd.new wb #[.slice A9 S9.length c9] _, rfl, fun j x y hx hy => by
            cases j with
            | zero => simp at hx hy; subst hx hy; exact ⟨A9, c9, rfl, hc9, hr9.alloc _⟩
            | succ j => simp at hx⟩
        have HS8 := Lib.hid (C2.Sum8_any [S9] _ 1 _ hbss (by show 1 < _; omega) (by intro l hl; simp at hl; subst hl; omega))
        have Hown2 := Lib.hid (Hown.out.alloc (.cells #[.slice A9 S9.length c9] 28))
        have Hb2 := Lib.hid (bal Hbb.out (.cells #[.slice A9 S9.length c9] 28))
        have hfl : [S9].flatten = S9 := by simp
        rw [hfl] at HS8
        clear hfl hbss hr9 Hown hbb hc9
        have hlt : C2.crc8 0 S9 < 256 := C2.crc8_lt 0 (by decide) S9
        have Hbl : Hid (bv S9 ++ [.int .u8 (C2.crc8 0 S9 : Nat)] = bv F) := by
          show _ = _
          rw [HF2.out, bv_append]
          simp only [bv, List.map_cons, List.map_nil, UInt8.toNat_ofNat']
          rw [Nat.mod_eq_of_lt (show C2.crc8 0 S9 < 2 ^ 8 from hlt)]
        have Hll : Hid (F.length = S9.length + 1) := by show _ = _; rw [HF2.out]; simp
        generalize C2.crc8 0 S9 = s9 at *
        go_wp2_with fail
        refine HS8.out.mono ?_
        rintro e ws ⟨rfl, hbs⟩
        have Hown3 := Lib.hid (ownsRow_below Hown2.out hbs)
        have Hb3 := Lib.hid (bnext Hb2.out hbs)
        have hsz3 := hbs.size
        simp only [World.size_alloc] at hsz3
        have hwl := Hb1.out.size
        clear HS8 Hown2 Hb2 hbs
        have hws : w.heap.size ≤ ws.heap.size := by have := Hle.out; omega
        have hu8 : IntKind.u8.wrap (s9 : Int) = s9 := by rw [IntKind.wrap_u8]; omega
        go_wp2_with (at_builtin; refine app1 (w0 := w) rfl _ _ 28 rfl Tryd.underlying28 C3.info_u8 rfl (by decide) rfl (ownsRow_less Hown3.out Hle.out) (Nat.le_refl _) hws Hb3.out rfl rfl (C3.one_u8 _) (by omega) (by unfold maxLen; omega) ?_; intro v1 w9 own1 hb9 hs9; have Hown9 := Lib.hid own1; clear own1)
        go_ret2
        refine ⟨_, rfl, ?_, hb9⟩
        have h9 := Hown9.out
        rw [show bv S9 ++ (#[Value.int .u8 (s9 : Int)]).toList = bv F from Hbl.out, ← Hll.out] at h9
        exact h9
    · have hr2' : (ratL.getD rc 0 == -2) = false := by rw [beq_eq_false_iff_ne]; exact hr2
      have HE9 : Hid (IB = _) := HE.out.trans (by rw [ratI, if_neg (by rintro rfl; exact hr2 rfl), if_neg (by rintro rfl; exact hr2 rfl), if_neg (by rintro rfl; exact hr2 rfl), List.append_nil])
      generalize ratL.getD rc 0 = zr at *
      clear hr2 hrf
      go_wp2_with fail
      refine (unit_any rc _).mono ?_
      rintro e wx ⟨rfl, rfl⟩
      go_wp2_with fail
      clear f2 f7 hzr
      refine (Bytes_st HS.out (by decide)).mono ?_
      rintro e wb ⟨vv, rfl, Hown, hbb⟩
      obtain ⟨A9, c9, rfl, hc9, hr9⟩ := own_rd Hown.out
      have HF2 : Hid (F = pkL IB ++ [UInt8.ofNat (C2.crc8 0 (pkL IB))]) := HF.out
      rw [← HE9.out] at Hown hr9 hc9 ⊢
      have hIBl : (pkL IB).length ≤ 1000 := by rw [HE9.out, pkL_length]; have := HS.out.len; omega
      have hbbz := hbb.size
      have Hbb := Lib.hid (bnext (bnext Hb1.out HS.out.blw) hbb)
      have Hle := Lib.hid (Nat.le_trans (Nat.le_trans Hb1.out.size HS.out.blw.size) (Nat.le_refl _))
      clear HF HI HS HE9
      generalize pkL IB = S9 at *
      have hbss : BSS (wb.alloc (.cells #[.slice A9 S9.length c9] 28)) (.slice (some ⟨wb.heap.size, 0, none⟩) 1 1) [S9] :=
        ⟨_, 1, [.slice A9 S9.length c9], rfl, Nat.le_refl _, Rd.new wb #[.slice A9 S9.length c9] _, rfl, fun j x y hx hy => by
          cases j with
          | zero => simp at hx hy; subst hx hy; exact ⟨A9, c9, rfl, hc9, hr9.alloc _⟩
          | succ j => simp at hx⟩
      have HS8 := Lib.hid (C2.Sum8_any [S9] _ 1 _ hbss (by show 1 < _; omega) (by intro l hl; simp at hl; subst hl; omega))
      have Hown2 := Lib.hid (Hown.out.alloc (.cells #[.slice A9 S9.length c9] 28))
      have Hb2 := Lib.hid (bal Hbb.out (.cells #[.slice A9 S9.length c9] 28))
      have hfl : [S9].flatten = S9 := by simp
      rw [hfl] at HS8
      clear hfl hbss hr9 Hown hbb hc9
      have hlt : C2.crc8 0 S9 < 256 := C2.crc8_lt 0 (by decide) S9
      have Hbl : Hid (bv S9 ++ [.int .u8 (C2.crc8 0 S9 : Nat)] = bv F) := by
        show _ = _
        rw [HF2.out, bv_append]
        simp only [bv, List.map_cons, List.map_nil, UInt8.toNat_ofNat']
        rw [Nat.mod_eq_of_lt (show C2.crc8 0 S9 < 2 ^ 8 from hlt)]
      have Hll : Hid (F.length = S9.length + 1) := by show _ = _; rw [HF2.out]; simp
      generalize C2.crc8 0 S9 = s9 at *
      go_wp2_with fail
      refine HS8.out.mono ?_
      rintro e ws ⟨rfl, hbs⟩
      have Hown3 := Lib.hid (ownsRow_below Hown2.out hbs)
      have Hb3 := Lib.hid (bnext Hb2.out hbs)
      have hsz3 := hbs.size
      simp only [World.size_alloc] at hsz3
      have hwl := Hb1.out.size
      clear HS8 Hown2 Hb2 hbs
      have hws : w.heap.size ≤ ws.heap.size := by have := Hle.out; omega
      have hu8 : IntKind.u8.wrap (s9 : Int) = s9 := by rw [IntKind.wrap_u8]; omega
      go_wp2_with (at_builtin; refine app1 (w0 := w) rfl _ _ 28 rfl Tryd.underlying28 C3.info_u8 rfl (by decide) rfl (ownsRow_less Hown3.out Hle.out) (Nat.le_refl _) hws Hb3.out rfl rfl (C3.one_u8 _) (by omega) (by unfold maxLen; omega) ?_; intro v1 w9 own1 hb9 hs9; have Hown9 := Lib.hid own1; clear own1)
      go_ret2
      refine ⟨_, rfl, ?_, hb9⟩
      have h9 := Hown9.out
      rw [show bv S9 ++ (#[Value.int .u8 (s9 : Int)]).toList = bv F from Hbl.out, ← Hll.out] at h9
      exact h9
end Go.Proofs.YtgohfbfdhdepnaaDoor
