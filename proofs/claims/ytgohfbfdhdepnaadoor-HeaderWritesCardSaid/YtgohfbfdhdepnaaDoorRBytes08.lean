/-
  jetsamref08.Bytes: its walk.
-/
import Derived.Test.YtgohfbfdhdepnaaDoorRTab08
import Derived.Test.YtgohfbfdhdepnaaDoorWrite08
import Derived.Test.YtgohfbfdhdepnaaDoorPackLaw
import Derived.Test.YtgohfbfdhdepnaaDoorCrcEq
import Derived.Test.YtgohfbfdhdepnaaDoorHeadT
namespace Go.Proofs.YtgohfbfdhdepnaaDoor
open Go.RowKit

theorem byte_bits (l : List UInt8) (j : Nat) (h : j < l.length) : vb (l[j]).toNat 8 = (List.range 8).map fun i => bitAt l (8 * j + i) := by
  unfold vb
  refine List.map_congr_left fun i hi => ?_
  have hi := List.mem_range.1 hi
  rw [bitAt, show (8 * j + i) / 8 = j from by omega, show (8 * j + i) % 8 = i from by omega, List.getD_eq_getElem?_getD, List.getElem?_eq_getElem h]
  rfl
theorem bitL_by8 (l : List UInt8) : bitL l (8 * l.length) = by8 l := by
  have key : ∀ j, j ≤ l.length → bitL l (8 * j) = by8 (l.take j) := by
    intro j
    induction j with
    | zero => intro _; simp [bitL, by8]
    | succ j ih =>
      intro hj
      rw [by8_snoc l j (by omega), ← ih (by omega), byte_bits l j (by omega), bitL_add, show 8 * j + 8 = 8 * (j + 1) from by omega]
  rw [key _ (Nat.le_refl _), List.take_length]
/-- Bits in a row of the call's own. -/
structure Sl (w0 W : World) (v : Value) (bs : List Nat) (k : Nat) : Prop where
  own : W.ownsRow w0.heap.size 3 1 v bs.length (iv8 bs)
  blw : Below w0.heap.size w0 W
  len : bs.length ≤ k
theorem RPut_st {w0 W : World} {v : Value} {bs : List Nat} {k : Nat} (H : Sl w0 W v bs k) (n x : Nat) (hx : x < 2 ^ n) (hn : n ≤ 48) (hk : k ≤ 1000) :
    Calls Tryd.prog 38 #[v, .int .i64 n, .int .i64 x, .bool false] W fun e w' => ∃ v' q, e = .returned (.tuple #[v', q]) ∧ Sl w0 w' v' (bs ++ vb x n) (k + n) := by
  have hl := H.len
  have hx48 : x < 281474976710656 := Nat.lt_of_lt_of_le hx (Nat.pow_le_pow_right (n := 2) (by omega) hn)
  have e : ptE n x = 0 := by
    have hp : ((2 : Int) ^ n) = ((2 ^ n : Nat) : Int) := by simp
    rw [ptE, if_neg (by omega), if_neg]
    rw [Int.toNat_natCast, hp]
    intro h
    rcases h with h | h
    · omega
    · exact absurd (Int.ofNat_le.1 h) (Nat.not_le.2 hx)
  have hB : rpB bs n x false = bs ++ vb x n := by rw [rpB_u, ptB, if_pos e, Int.toNat_natCast, Int.toNat_natCast]
  refine (RPut_any v bs n x false w0.heap.size W H.own H.blw.size (by omega) (by omega) (by omega)).mono ?_
  rintro e w' ⟨v', rfl, h1, h2⟩
  rw [hB] at h1
  exact ⟨v', _, rfl, h1, h2.below H.blw H.own (Nat.le_refl _), by rw [List.length_append, vb_length]; omega⟩
theorem wpAnyH_tail {P : Program} {l : List Oper} {Q : Exit → Act → World → Prop} {S : World → Prop} {k g : Nat} {listed : Array Bool} {a : Act} {w : World} (hsel : Region.noSelect l.toArray = true) (hlen : l.length = k + g) (hB : Region.lexH .any l.toArray g k listed = true) (hS : S w)
    (h : wpHead P l.toArray S (fun a' => wpAnyH P .any l.toArray (NoPanic Q) S 0 (Region.setFrom g k listed) a' w) (l.drop k) a) : wpAnyH P .any l.toArray (NoPanic Q) S g listed a w := by
  have hd : (l.drop k).length = g := by rw [List.length_drop]; omega
  have h2 := wpAnyH_head (md := .any) (g := 0) (S := S) hsel (fun _ _ _ _ _ h => h) (l.drop k) k listed a w (fun j hj => by rw [List.getElem?_drop, List.getElem?_toArray]) (by rw [hd]; exact hB) hS (by rw [hd]; exact h)
  rw [hd, Nat.zero_add] at h2
  exact h2
theorem Sl.below {w0 W W' : World} {v : Value} {bs : List Nat} {k : Nat} (H : Sl w0 W v bs k) (hb : Below W.heap.size W W') : Sl w0 W' v bs k := ⟨ownsRow_below H.own hb, bnext H.blw hb, H.len⟩
theorem Sl.of {w0 W : World} {v : Value} {bs bs' : List Nat} {k k' : Nat} (H : Sl w0 W v bs k) (e : bs = bs') (hk : k ≤ k') : Sl w0 W v bs' k' := by subst e; exact ⟨H.own, H.blw, Nat.le_trans H.len hk⟩
theorem Sl.app0 {w0 W W' : World} {v v' : Value} {bs : List Nat} {k : Nat} (H : Sl w0 W v bs k) (ho : W'.ownsRow w0.heap.size 3 1 v' (bs.length + 1) (iv8 bs ++ (#[Value.int .i64 0]).toList)) (hb : Below w0.heap.size w0 W') : Sl w0 W' v' (bs ++ vb 0 1) (k + 1) := by
  have h := H.len
  refine ⟨?_, hb, by rw [List.length_append, vb_length]; omega⟩
  rw [List.length_append, vb_length, iv8_append]
  exact ho
theorem Sl.app8 {w0 W W' : World} {v v' : Value} {bs : List Nat} {k : Nat} {l : List UInt8} (H : Sl w0 W v bs k) (hl : l.length ≤ 7) (ho : W'.ownsRow w0.heap.size 3 1 v' (bs.length + 8 * l.length) (iv8 bs ++ iv8 (by8 l))) (hf : FrL v v' W W') : Sl w0 W' v' (bs ++ by8 l) (k + 56) := by
  have h := H.len
  refine ⟨?_, hf.below H.blw H.own (Nat.le_refl _), by rw [List.length_append, by8_length]; omega⟩
  rw [List.length_append, by8_length, iv8_append]
  exact ho
theorem first_bits (V : Bool) : vb (65528 + bitV V) 16 = vb 32764 15 ++ vb (bitV V) 1 := by cases V <;> decide
theorem hdI0_eq (V : Bool) (bc rc m dc n fst : Nat) (h : vb fst 16 = vb 32764 15 ++ vb (bitV V) 1) : [] ++ vb fst 16 ++ vb bc 4 ++ vb rc 4 ++ vb m 4 ++ vb dc 3 ++ vb 0 1 ++ by8 (codB n) = hdI0 V bc rc m dc n := by
  unfold hdI0
  rw [h]
  simp only [List.append_assoc, List.nil_append]
theorem vb_lt2 (bs : List Nat) (v n : Nat) (h : ∀ b ∈ bs, b < 2) : ∀ b ∈ bs ++ vb v n, b < 2 := by
  intro b hb
  rcases List.mem_append.1 hb with hb | hb
  · exact h b hb
  · exact vb_lt v n b hb
theorem by8_lt (l : List UInt8) : ∀ b ∈ by8 l, b < 2 := by
  intro b hb
  obtain ⟨x, -, hx⟩ := List.mem_flatMap.1 hb
  exact vb_lt _ 8 b hx
theorem hdI0_lt (V : Bool) (bc rc m dc n : Nat) : ∀ b ∈ hdI0 V bc rc m dc n, b < 2 := by
  intro b hb
  rcases List.mem_append.1 hb with hb | hb
  · exact vb_lt2 _ _ _ (vb_lt2 _ _ _ (vb_lt2 _ _ _ (vb_lt2 _ _ _ (vb_lt2 _ _ _ (vb_lt2 _ _ _ (vb_lt2 _ _ _ (fun b hb => by cases hb))))))) b hb
  · exact by8_lt _ b hb

set_option maxRecDepth 100000 in
set_option maxHeartbeats 16000000 in
theorem RBytes_ok (h : Hd) (hr63 : h.r ≤ 9223372036854775807) (hc : chkE h = 0) (w : World) :
    Calls Tryd.prog 14 #[h.val] w fun e w' => ∃ v, e = .returned v ∧ Hid (w'.ownsRow w.heap.size 5 1 v (hdB h).length (bv (hdB h))) ∧ Below w.heap.size w w' := by
  obtain ⟨bc, rc, m, dc, n, hh, hbc, hrc, hm, hdc, hn, -, hbf, hrf, -, hrc15, -⟩ := hd_ok hc
  have HF : Hid (hdB h = pkL (hdI h) ++ [UInt8.ofNat (C2.crc8 0 (pkL (hdI h)))]) := rfl
  have HI : Hid (hdI h = hdI0 h.V bc rc m dc n ++ blkI bc h.b ++ ratI rc h.r) := by
    show _ = _
    rw [hh]; rfl
  generalize hdB h = F at *
  generalize hdI h = IB at *
  obtain ⟨V, bc', rc', m', dc', n', b, r, d⟩ := h
  simp only [Hd.mk.injEq] at hh
  obtain ⟨-, rfl, rfl, rfl, rfl, rfl, -, -, rfl⟩ := hh
  simp only at hbf hrf HI hr63
  clear hc
  generalize depL.getD dc 0 = d at *
  simp only [Hd.val]
  obtain ⟨w0, hw0⟩ : ∃ w0, w.alloc (.cells (Hd.mk V bc rc m dc n b r d).cells 26) = w0 := ⟨_, rfl⟩
  have HB : Hid (HrAt w0 w.heap.size ⟨V, bc, rc, m, dc, n, b, r, d⟩) := by show HrAt _ _ _; rw [← hw0]; exact heap_alloc_last w _
  have Hb0 : Hid (Below w.heap.size w w0) := by show Below _ _ _; rw [← hw0]; exact bal (Below.refl _ _) _
  simp only [Hd.cells] at hw0
  have Hw0 := Lib.hid hw0
  clear hw0
  have H0 : Hid (Sl w0 w0 (.slice none 0 0) [] 0) := ⟨World.ownsRow_nil _ _ _ 1, Below.refl _ _, by simp⟩
  go_enter Tryd.func14, Tryd.ntmps14
  go_upto_region 1 with fail
  rw [Hw0.out]
  clear Hw0
  have f0 := HB.out.c 0 (.bool V) rfl
  go_upto_if 8 with fail
  go_cut [3] (fun v wx => v = .int .i64 ((65528 + bitV V : Nat) : Int) ∧ w0 = wx)
  case first =>
    cases V
    · go_wp2_with fail
      go_meet
      exact ⟨rfl, rfl⟩
    · go_wp2_with fail
      go_meet
      exact ⟨rfl, rfl⟩
  case rest =>
    obtain ⟨rfl, rfl⟩ := hcut
    clear f0
    have hf16 : 65528 + bitV V < 2 ^ 16 := by cases V <;> decide
    have Hfb := Lib.hid (first_bits V)
    generalize 65528 + bitV V = fst at *
    go_wp2_with fail
    refine (RPut_st H0.out 16 fst hf16 (by decide) (by decide)).mono ?_
    rintro e w1 ⟨v1, q1, rfl, H⟩
    have H1 := Lib.hid H
    clear H H0 hf16
    have f1 := (HB.out.below H1.out.blw).c 1 (.int .i64 bc) rfl
    go_wp2_with fail
    refine (RPut_st H1.out 4 bc (by omega) (by decide) (by decide)).mono ?_
    rintro e w2 ⟨v2, q2, rfl, H⟩
    have H2 := Lib.hid H
    clear H H1 f1
    have f2 := (HB.out.below H2.out.blw).c 2 (.int .i64 rc) rfl
    go_wp2_with fail
    refine (RPut_st H2.out 4 rc (by omega) (by decide) (by decide)).mono ?_
    rintro e w3 ⟨v3, q3, rfl, H⟩
    have H3 := Lib.hid H
    clear H H2 f2
    have f3 := (HB.out.below H3.out.blw).c 3 (.int .i64 m) rfl
    go_wp2_with fail
    refine (RPut_st H3.out 4 m (by omega) (by decide) (by decide)).mono ?_
    rintro e w4 ⟨v4, q4, rfl, H⟩
    have H4 := Lib.hid H
    clear H H3 f3
    have f4 := (HB.out.below H4.out.blw).c 4 (.int .i64 dc) rfl
    go_wp2_with fail
    refine (RPut_st H4.out 3 dc (by omega) (by decide) (by decide)).mono ?_
    rintro e w5 ⟨v5, q5, rfl, H⟩
    have H5 := Lib.hid H
    clear H H4 f4
    have hlen5 := H5.out.len
    go_wp2_with (at_builtin; refine app1 (w0 := w0) rfl _ _ 65 rfl Tryd.underlying65 info_int1 rfl (by decide) rfl H5.out.own (Nat.le_refl _) H5.out.blw.size H5.out.blw rfl rfl (one_int _ _) (by omega) (by unfold maxLen; omega) ?_; intro v6 w6 own6 hb6 hs6; have H6 := Lib.hid (H5.out.app0 own6 hb6); clear own6; have f5 := (HB.out.below hb6).c 5 (.int .i64 n) rfl)
    refine (C3.refPut_ok n hn (C3.code_eq n hn) _).mono ?_
    rintro e w7 ⟨v7, rfl, Hown7, hb7⟩
    obtain ⟨A7, c7, rfl, hc7, -, hr7, hn7⟩ := own_rd4 Hown7.out
    rw [← bv_codB n hn] at hr7
    have hcl : (codB n).length ≤ 7 := by have := (C3.szN_pos n).2; rw [codB_length]; omega
    rw [← codB_length] at hc7 hn7 ⊢
    have HBt := Lib.hid (RBits_any (codB n) A7 c7 w7 hr7 (by omega))
    rw [bitL_by8] at HBt
    have H7 : Hid (Sl w0 w7 v6 _ _) := H6.out.below hb7
    clear H5 H6 hb6 f5 hb7 Hown7 hr7 hn7 hc7 hlen5 hs6
    go_wp2_with fail
    refine HBt.out.mono ?_
    rintro e w8 ⟨v8, rfl, Hown8, hb8⟩
    have H8 : Hid (Sl w0 w8 v6 _ _) := H7.out.below hb8
    obtain ⟨A8, c8, rfl, hc8, -, hr8, hn8⟩ := own_rd4 Hown8.out
    have hl8 : (iv8 (by8 (codB n))).length = 8 * (codB n).length := by rw [iv8_length, by8_length]
    have hlen8 := H8.out.len
    clear H7 HBt hb8 Hown8 hc8
    go_upto_if 53 with (at_builtin; refine appNg rfl _ _ 65 rfl Tryd.underlying65 info_int1 rfl rfl H8.out.own H8.out.blw.size rfl hr8 hl8 (fun h => (hn8 h).2) (iv8_one _) (by omega) (by unfold maxLen; omega) ?_; intro v9 w9 own9 fr9; have HS := Lib.hid ((H8.out.app8 hcl own9 fr9).of (hdI0_eq V bc rc m dc n fst Hfb.out) (show 0 + 16 + 4 + 4 + 4 + 3 + 1 + 56 ≤ 200 by omega)); clear own9 fr9 H8 hcl hr8 hl8 hn8 hlen8; have f1 := (HB.out.below HS.out.blw).c 1 (.int .i64 bc) rfl; have f6 := (HB.out.below HS.out.blw).c 6 (.int .i64 b) rfl; have f2 := (HB.out.below HS.out.blw).c 2 (.int .i64 rc) rfl; have f7 := (HB.out.below HS.out.blw).c 7 (.int .i64 r) rfl)
    obtain ⟨pre, hpre⟩ : ∃ pre, hdI0 V bc rc m dc n = pre := ⟨_, rfl⟩
    have Hpl : Hid (∀ b ∈ pre, b < 2) := by show ∀ b ∈ pre, b < 2; rw [← hpre]; exact hdI0_lt V bc rc m dc n
    rw [hpre] at HS HI
    clear hpre
    by_cases c6 : bc = 6
    · subst c6
      obtain ⟨h1, h2⟩ := of_decide_eq_true (show decide (1 ≤ b ∧ b ≤ 256) = true from hbf)
      obtain ⟨x, rfl⟩ : ∃ x : Nat, b = (x : Int) + 1 := ⟨(b - 1).toNat, by omega⟩
      have hx : x < 256 := by omega
      clear h1 h2 hbf
      have HE : Hid (IB = (pre ++ vb x 8) ++ ratI rc r) := HI.out.trans (by rw [show blkI 6 ((x : Int) + 1) = vb x 8 from by rw [blkI, if_pos rfl, Int.add_sub_cancel, Int.toNat_natCast]])
      go_wp2_with fail
      refine (RPut_st HS.out 8 x (by omega) (by decide) (by decide)).mono ?_
      rintro e wu ⟨vu, qu, rfl, H⟩
      have HS2 := Lib.hid H
      clear H HS f1 f6 f2 f7
      have f1 := (HB.out.below HS2.out.blw).c 1 (.int .i64 (6 : Nat)) rfl
      have f2 := (HB.out.below HS2.out.blw).c 2 (.int .i64 rc) rfl
      have f7 := (HB.out.below HS2.out.blw).c 7 (.int .i64 r) rfl
      by_cases c12 : rc = 12
      · subst c12
        obtain ⟨hr0, hrm, hrq⟩ := of_decide_eq_true (show decide (0 ≤ r ∧ r % 1000 = 0 ∧ r / 1000 < 256) = true from hrf)
        obtain ⟨y, hy⟩ : ∃ y : Nat, r / 1000 = y := ⟨(r / 1000).toNat, by omega⟩
        have hq2 : r.tdiv 1000 = (y : Int) := by rw [Int.tdiv_eq_ediv_of_nonneg hr0]; exact hy
        have hy8 : y < 256 := by omega
        clear hrm hrq hrf
        have HE9 : Hid (IB = _ ++ vb y 8) := HE.out.trans (by rw [ratI, if_pos rfl, hy, Int.toNat_natCast])
        go_wp2_with fail
        refine (RPut_st HS2.out 8 y (by omega) (by decide) (by decide)).mono ?_
        rintro e wt ⟨vt, qt, rfl, H⟩
        have H9 := Lib.hid H
        have f2 := (HB.out.below H9.out.blw).c 2 (.int .i64 (12 : Nat)) rfl
        clear H f7 HS2
        have HRB : Hid (Calls Tryd.prog 41 #[vt] wt fun e w' => ∃ v, e = .returned v ∧ Hid (w'.ownsRow wt.heap.size 5 1 v (pkL IB).length (bv (pkL IB))) ∧ Below wt.heap.size wt w') := by
          have hbit : ∀ b ∈ IB, b < 2 := by rw [HE9.out]; exact vb_lt2 _ _ _ (vb_lt2 _ _ _ Hpl.out)
          have hS9 := H9.out.own
          have hl9 := H9.out.len
          rw [← HE9.out] at hS9 hl9
          obtain ⟨A9, c9, h9, -, -, hr9, -⟩ := own_rd4 hS9
          rw [h9]
          exact RBytesL_any IB hbit A9 c9 wt hr9 (by omega)
        have hIBl : (pkL IB).length ≤ 1000 := by rw [HE9.out, pkL_length]; have := H9.out.len; omega
        have Hb9 := Lib.hid (bnext Hb0.out H9.out.blw)
        go_wp2_with fail
        refine HRB.out.mono ?_
        rintro e wb ⟨vv, rfl, Hown, hbb⟩
        obtain ⟨A9, c9, rfl, hc9, hr9⟩ := own_rd Hown.out
        have HF2 : Hid (F = pkL IB ++ [UInt8.ofNat (C2.crc8 0 (pkL IB))]) := HF.out
        have hbbz := hbb.size
        have Hbb := Lib.hid (bnext Hb9.out hbb)
        have Hle := Lib.hid Hb9.out.size
        clear HF HI H9 HE9 HRB Hb9
        generalize pkL IB = S9 at *
        have HS8 := Lib.hid (C2.refSum8_any S9 A9 c9 wb hr9 (by omega))
        have Hown2 := Lib.hid Hown.out
        rw [← C2.tells8] at HS8
        clear hr9 Hown hbb hc9
        have hlt : C2.crc8 0 S9 < 256 := C2.crc8_lt 0 (by decide) S9
        have Hbl : Hid (bv S9 ++ [.int .u8 (C2.crc8 0 S9 : Nat)] = bv F) := by
          show _ = _
          rw [HF2.out, bv_append]
          simp only [bv, List.map_cons, List.map_nil, UInt8.toNat_ofNat']
          rw [Nat.mod_eq_of_lt (show C2.crc8 0 S9 < 2 ^ 8 from hlt)]
        have Hll : Hid (F.length = S9.length + 1) := by show _ = _; rw [HF2.out]; simp
        generalize C2.crc8 0 S9 = s9 at *
        go_wp2_with fail
        refine HS8.out.mono ?_
        rintro e ws ⟨rfl, hbs⟩
        have Hown3 := Lib.hid (ownsRow_below Hown2.out hbs)
        have Hb3 := Lib.hid (bnext Hbb.out hbs)
        have hsz3 := hbs.size
        clear HS8 Hown2 Hbb hbs
        have hws : w.heap.size ≤ ws.heap.size := by have := Hle.out; omega
        have hu8 : IntKind.u8.wrap (s9 : Int) = s9 := by rw [IntKind.wrap_u8]; omega
        go_wp2_with (at_builtin; refine app1 (w0 := w) rfl _ _ 28 rfl Tryd.underlying28 C3.info_u8 rfl (by decide) rfl (ownsRow_less Hown3.out Hle.out) (Nat.le_refl _) hws Hb3.out rfl rfl (C3.one_u8 _) (by omega) (by unfold maxLen; omega) ?_; intro v1 wf own1 hbf hsf; have Hown9 := Lib.hid own1; clear own1)
        go_ret
        refine ⟨_, rfl, ?_, hbf⟩
        have h9 := Hown9.out
        rw [show bv S9 ++ (#[Value.int .u8 (s9 : Int)]).toList = bv F from Hbl.out, ← Hll.out] at h9
        exact h9
      · have c12' : ((rc : Int) == 12) = false := by rw [beq_eq_false_iff_ne]; omega
        by_cases c13 : rc = 13
        · subst c13
          obtain ⟨hr0, hrm, hrq⟩ := of_decide_eq_true (show decide (0 ≤ r ∧ r % 1 = 0 ∧ r / 1 < 65536) = true from hrf)
          obtain ⟨y, rfl⟩ : ∃ y : Nat, r = y := ⟨r.toNat, by omega⟩
          have hy8 : y < 65536 := by omega
          have hq2 : (y : Int).tdiv 1 = (y : Int) := Int.tdiv_one _
          clear hrm hrq hrf c12 c12'
          have HE9 : Hid (IB = _ ++ vb y 16) := HE.out.trans (by rw [ratI, if_neg (by decide), if_pos rfl, Int.toNat_natCast])
          have HU := Lib.hid (fun W => Unit_any 13 W)
          have e1 : unU 13 = 1 := rfl
          rw [e1] at HU
          clear e1
          have hwy : IntKind.i64.wrap (y : Int) = y := by rw [IntKind.wrap_i64]; omega
          have HQ : Hid (∀ W', Below w0.heap.size w0 W' → W'.cell? ⟨w.heap.size, 2, none⟩ = some (.int .i64 (13 : Nat)) ∧ W'.cell? ⟨w.heap.size, 7, none⟩ = some (.int .i64 (y : Int))) := fun W' hb => ⟨(HB.out.below hb).c 2 _ rfl, (HB.out.below hb).c 7 _ rfl⟩
          go_wp2_with fail
          refine wp_region_headN (fun W' => W'.cell? ⟨w.heap.size, 2, none⟩ = some (.int .i64 (13 : Nat)) ∧ W'.cell? ⟨w.heap.size, 7, none⟩ = some (.int .i64 (y : Int))) 7 5 (by kernel_rfl) rfl (by kernel_rfl) (HQ.out _ HS2.out.blw.drew) ?_
          simp only [List.take_succ_cons, List.take_zero]
          refine' wpHead_op _ (by rfl) ?hv1 ?hrest1
          case hv1 => (intro w' hS'; (try dsimp only at hS'); go_simp; try with_reducible rfl)
          try simp only [Act.put, List.setIfInBounds_toArray, List.set_cons_zero, List.set_cons_succ]
          refine' wpHead_op _ (by rfl) ?hv2 ?hrest2
          case hv2 => (intro w' hS'; (try dsimp only at hS'); go_simp; try with_reducible rfl)
          try simp only [Act.put, List.setIfInBounds_toArray, List.set_cons_zero, List.set_cons_succ]
          refine' wpHead_op _ (by rfl) ?hv3 ?hrest3
          case hv3 => (intro w' hS'; (try dsimp only at hS'); go_simp; try with_reducible rfl)
          try simp only [Act.put, List.setIfInBounds_toArray, List.set_cons_zero, List.set_cons_succ]
          refine' wpHead_op _ (by rfl) ?hv4 ?hrest4
          case hv4 => (intro w' hS'; (try dsimp only at hS'); go_simp; try with_reducible rfl)
          try simp only [Act.put, List.setIfInBounds_toArray, List.set_cons_zero, List.set_cons_succ]
          refine' wpHead_op _ (by rfl) ?hv5 ?hrest5
          case hv5 => (intro w' hS'; (try dsimp only at hS'); go_simp; try with_reducible rfl)
          try simp only [Act.put, List.setIfInBounds_toArray, List.set_cons_zero, List.set_cons_succ]
          refine' wpHead_call (.int .i64 1) _ _ (by rfl) ?hv6 ?hc6 ?hrest6
          case hv6 => (intro w'; go_simp; first | done | (refine ⟨?_, ?_⟩ <;> with_reducible rfl) | with_reducible rfl)
          case hc6 => exact (fun W' _ => HU.out W')
          try simp only [Act.put, List.setIfInBounds_toArray, List.set_cons_zero, List.set_cons_succ]
          refine' wpHead_op _ (by rfl) ?hv7 ?hrest7
          case hv7 => (intro w' hS'; (try dsimp only at hS'); go_simp; try with_reducible rfl)
          try simp only [Act.put, List.setIfInBounds_toArray, List.set_cons_zero, List.set_cons_succ]
          refine wpHead_nil ?_
          obtain ⟨wd, hwd, hsd⟩ : ∃ wd, wu.drew = wd ∧ Sl w0 wd vu _ _ := ⟨_, rfl, HS2.out.below (Below.refl _ _).drew⟩
          rw [hwd]
          clear hwd f2 f7 HS2
          refine wpAnyH_next (i := 7) (by kernel_rfl) rfl (by rfl) (fun K hK => ?_)
          go_simp
          refine (RPut_st hsd 16 y (by omega) (by decide) (by decide)).mono ?_
          rintro e wt ⟨vt, qt, rfl, H⟩
          have H9 := Lib.hid H
          clear hsd H
          refine hK.out _ _ (HQ.out _ H9.out.blw) ?_
          clear hK K
          try simp only [Act.put, List.setIfInBounds_toArray, List.set_cons_zero, List.set_cons_succ]
          refine wpAnyH_tail (k := 8) (by kernel_rfl) rfl (by kernel_rfl) (HQ.out _ H9.out.blw) ?_
          simp only [List.drop_succ_cons, List.drop_zero]
          refine' wpHead_op _ (by rfl) ?hv8 ?hrest8
          case hv8 => (intro w' hS'; (try dsimp only at hS'); go_simp; try with_reducible rfl)
          try simp only [Act.put, List.setIfInBounds_toArray, List.set_cons_zero, List.set_cons_succ]
          refine' wpHead_op _ (by rfl) ?hv9 ?hrest9
          case hv9 => (intro w' hS'; (try dsimp only at hS'); go_simp; try with_reducible rfl)
          try simp only [Act.put, List.setIfInBounds_toArray, List.set_cons_zero, List.set_cons_succ]
          refine' wpHead_op _ (by rfl) ?hv10 ?hrest10
          case hv10 => (intro w' hS'; (try dsimp only at hS'); go_simp; try with_reducible rfl)
          try simp only [Act.put, List.setIfInBounds_toArray, List.set_cons_zero, List.set_cons_succ]
          refine' wpHead_op _ (by rfl) ?hv11 ?hrest11
          case hv11 => (intro w' hS'; (try dsimp only at hS'); go_simp; try with_reducible rfl)
          try simp only [Act.put, List.setIfInBounds_toArray, List.set_cons_zero, List.set_cons_succ]
          refine wpHead_nil ?_
          refine wpAnyH_doneN (by kernel_rfl) ?_
          clear HQ
          have HRB : Hid (Calls Tryd.prog 41 #[vt] wt fun e w' => ∃ v, e = .returned v ∧ Hid (w'.ownsRow wt.heap.size 5 1 v (pkL IB).length (bv (pkL IB))) ∧ Below wt.heap.size wt w') := by
            have hbit : ∀ b ∈ IB, b < 2 := by rw [HE9.out]; exact vb_lt2 _ _ _ (vb_lt2 _ _ _ Hpl.out)
            have hS9 := H9.out.own
            have hl9 := H9.out.len
            rw [← HE9.out] at hS9 hl9
            obtain ⟨A9, c9, h9, -, -, hr9, -⟩ := own_rd4 hS9
            rw [h9]
            exact RBytesL_any IB hbit A9 c9 wt hr9 (by omega)
          have hIBl : (pkL IB).length ≤ 1000 := by rw [HE9.out, pkL_length]; have := H9.out.len; omega
          have Hb9 := Lib.hid (bnext Hb0.out H9.out.blw)
          go_wp2_with fail
          refine HRB.out.mono ?_
          rintro e wb ⟨vv, rfl, Hown, hbb⟩
          obtain ⟨A9, c9, rfl, hc9, hr9⟩ := own_rd Hown.out
          have HF2 : Hid (F = pkL IB ++ [UInt8.ofNat (C2.crc8 0 (pkL IB))]) := HF.out
          have hbbz := hbb.size
          have Hbb := Lib.hid (bnext Hb9.out hbb)
          have Hle := Lib.hid Hb9.out.size
          clear HF HI H9 HE9 HRB Hb9
          generalize pkL IB = S9 at *
          have HS8 := Lib.hid (C2.refSum8_any S9 A9 c9 wb hr9 (by omega))
          have Hown2 := Lib.hid Hown.out
          rw [← C2.tells8] at HS8
          clear hr9 Hown hbb hc9
          have hlt : C2.crc8 0 S9 < 256 := C2.crc8_lt 0 (by decide) S9
          have Hbl : Hid (bv S9 ++ [.int .u8 (C2.crc8 0 S9 : Nat)] = bv F) := by
            show _ = _
            rw [HF2.out, bv_append]
            simp only [bv, List.map_cons, List.map_nil, UInt8.toNat_ofNat']
            rw [Nat.mod_eq_of_lt (show C2.crc8 0 S9 < 2 ^ 8 from hlt)]
          have Hll : Hid (F.length = S9.length + 1) := by show _ = _; rw [HF2.out]; simp
          generalize C2.crc8 0 S9 = s9 at *
          go_wp2_with fail
          refine HS8.out.mono ?_
          rintro e ws ⟨rfl, hbs⟩
          have Hown3 := Lib.hid (ownsRow_below Hown2.out hbs)
          have Hb3 := Lib.hid (bnext Hbb.out hbs)
          have hsz3 := hbs.size
          clear HS8 Hown2 Hbb hbs
          have hws : w.heap.size ≤ ws.heap.size := by have := Hle.out; omega
          have hu8 : IntKind.u8.wrap (s9 : Int) = s9 := by rw [IntKind.wrap_u8]; omega
          go_wp2_with (at_builtin; refine app1 (w0 := w) rfl _ _ 28 rfl Tryd.underlying28 C3.info_u8 rfl (by decide) rfl (ownsRow_less Hown3.out Hle.out) (Nat.le_refl _) hws Hb3.out rfl rfl (C3.one_u8 _) (by omega) (by unfold maxLen; omega) ?_; intro v1 wf own1 hbf hsf; have Hown9 := Lib.hid own1; clear own1)
          go_ret
          refine ⟨_, rfl, ?_, hbf⟩
          have h9 := Hown9.out
          rw [show bv S9 ++ (#[Value.int .u8 (s9 : Int)]).toList = bv F from Hbl.out, ← Hll.out] at h9
          exact h9
        by_cases c14 : rc = 14
        · subst c14
          obtain ⟨hr0, hrm, hrq⟩ := of_decide_eq_true (show decide (0 ≤ r ∧ r % 10 = 0 ∧ r / 10 < 65536) = true from hrf)
          obtain ⟨y, hy⟩ : ∃ y : Nat, r / 10 = y := ⟨(r / 10).toNat, by omega⟩
          have hq2 : r.tdiv 10 = (y : Int) := by rw [Int.tdiv_eq_ediv_of_nonneg hr0]; exact hy
          have hy8 : y < 65536 := by omega
          clear hrm hrq hrf c12 c12' c13
          have HE9 : Hid (IB = _ ++ vb y 16) := HE.out.trans (by rw [ratI, if_neg (by decide), if_neg (by decide), if_pos rfl, hy, Int.toNat_natCast])
          have HU := Lib.hid (fun W => Unit_any 14 W)
          have e1 : unU 14 = 10 := rfl
          rw [e1] at HU
          clear e1
          have hwy : IntKind.i64.wrap (y : Int) = y := by rw [IntKind.wrap_i64]; omega
          have HQ : Hid (∀ W', Below w0.heap.size w0 W' → W'.cell? ⟨w.heap.size, 2, none⟩ = some (.int .i64 (14 : Nat)) ∧ W'.cell? ⟨w.heap.size, 7, none⟩ = some (.int .i64 r)) := fun W' hb => ⟨(HB.out.below hb).c 2 _ rfl, (HB.out.below hb).c 7 _ rfl⟩
          go_wp2_with fail
          refine wp_region_headN (fun W' => W'.cell? ⟨w.heap.size, 2, none⟩ = some (.int .i64 (14 : Nat)) ∧ W'.cell? ⟨w.heap.size, 7, none⟩ = some (.int .i64 r)) 7 5 (by kernel_rfl) rfl (by kernel_rfl) (HQ.out _ HS2.out.blw.drew) ?_
          simp only [List.take_succ_cons, List.take_zero]
          refine' wpHead_op _ (by rfl) ?hv12 ?hrest12
          case hv12 => (intro w' hS'; (try dsimp only at hS'); go_simp; try with_reducible rfl)
          try simp only [Act.put, List.setIfInBounds_toArray, List.set_cons_zero, List.set_cons_succ]
          refine' wpHead_op _ (by rfl) ?hv13 ?hrest13
          case hv13 => (intro w' hS'; (try dsimp only at hS'); go_simp; try with_reducible rfl)
          try simp only [Act.put, List.setIfInBounds_toArray, List.set_cons_zero, List.set_cons_succ]
          refine' wpHead_op _ (by rfl) ?hv14 ?hrest14
          case hv14 => (intro w' hS'; (try dsimp only at hS'); go_simp; try with_reducible rfl)
          try simp only [Act.put, List.setIfInBounds_toArray, List.set_cons_zero, List.set_cons_succ]
          refine' wpHead_op _ (by rfl) ?hv15 ?hrest15
          case hv15 => (intro w' hS'; (try dsimp only at hS'); go_simp; try with_reducible rfl)
          try simp only [Act.put, List.setIfInBounds_toArray, List.set_cons_zero, List.set_cons_succ]
          refine' wpHead_op _ (by rfl) ?hv16 ?hrest16
          case hv16 => (intro w' hS'; (try dsimp only at hS'); go_simp; try with_reducible rfl)
          try simp only [Act.put, List.setIfInBounds_toArray, List.set_cons_zero, List.set_cons_succ]
          refine' wpHead_call (.int .i64 10) _ _ (by rfl) ?hv17 ?hc17 ?hrest17
          case hv17 => (intro w'; go_simp; first | done | (refine ⟨?_, ?_⟩ <;> with_reducible rfl) | with_reducible rfl)
          case hc17 => exact (fun W' _ => HU.out W')
          try simp only [Act.put, List.setIfInBounds_toArray, List.set_cons_zero, List.set_cons_succ]
          refine' wpHead_op _ (by rfl) ?hv18 ?hrest18
          case hv18 => (intro w' hS'; (try dsimp only at hS'); go_simp; try with_reducible rfl)
          try simp only [Act.put, List.setIfInBounds_toArray, List.set_cons_zero, List.set_cons_succ]
          refine wpHead_nil ?_
          obtain ⟨wd, hwd, hsd⟩ : ∃ wd, wu.drew = wd ∧ Sl w0 wd vu _ _ := ⟨_, rfl, HS2.out.below (Below.refl _ _).drew⟩
          rw [hwd]
          clear hwd f2 f7 HS2
          refine wpAnyH_next (i := 7) (by kernel_rfl) rfl (by rfl) (fun K hK => ?_)
          go_simp
          refine (RPut_st hsd 16 y (by omega) (by decide) (by decide)).mono ?_
          rintro e wt ⟨vt, qt, rfl, H⟩
          have H9 := Lib.hid H
          clear hsd H
          refine hK.out _ _ (HQ.out _ H9.out.blw) ?_
          clear hK K
          try simp only [Act.put, List.setIfInBounds_toArray, List.set_cons_zero, List.set_cons_succ]
          refine wpAnyH_tail (k := 8) (by kernel_rfl) rfl (by kernel_rfl) (HQ.out _ H9.out.blw) ?_
          simp only [List.drop_succ_cons, List.drop_zero]
          refine' wpHead_op _ (by rfl) ?hv19 ?hrest19
          case hv19 => (intro w' hS'; (try dsimp only at hS'); go_simp; try with_reducible rfl)
          try simp only [Act.put, List.setIfInBounds_toArray, List.set_cons_zero, List.set_cons_succ]
          refine' wpHead_op _ (by rfl) ?hv20 ?hrest20
          case hv20 => (intro w' hS'; (try dsimp only at hS'); go_simp; try with_reducible rfl)
          try simp only [Act.put, List.setIfInBounds_toArray, List.set_cons_zero, List.set_cons_succ]
          refine' wpHead_op _ (by rfl) ?hv21 ?hrest21
          case hv21 => (intro w' hS'; (try dsimp only at hS'); go_simp; try with_reducible rfl)
          try simp only [Act.put, List.setIfInBounds_toArray, List.set_cons_zero, List.set_cons_succ]
          refine' wpHead_op _ (by rfl) ?hv22 ?hrest22
          case hv22 => (intro w' hS'; (try dsimp only at hS'); go_simp; try with_reducible rfl)
          try simp only [Act.put, List.setIfInBounds_toArray, List.set_cons_zero, List.set_cons_succ]
          refine wpHead_nil ?_
          refine wpAnyH_doneN (by kernel_rfl) ?_
          clear HQ
          have HRB : Hid (Calls Tryd.prog 41 #[vt] wt fun e w' => ∃ v, e = .returned v ∧ Hid (w'.ownsRow wt.heap.size 5 1 v (pkL IB).length (bv (pkL IB))) ∧ Below wt.heap.size wt w') := by
            have hbit : ∀ b ∈ IB, b < 2 := by rw [HE9.out]; exact vb_lt2 _ _ _ (vb_lt2 _ _ _ Hpl.out)
            have hS9 := H9.out.own
            have hl9 := H9.out.len
            rw [← HE9.out] at hS9 hl9
            obtain ⟨A9, c9, h9, -, -, hr9, -⟩ := own_rd4 hS9
            rw [h9]
            exact RBytesL_any IB hbit A9 c9 wt hr9 (by omega)
          have hIBl : (pkL IB).length ≤ 1000 := by rw [HE9.out, pkL_length]; have := H9.out.len; omega
          have Hb9 := Lib.hid (bnext Hb0.out H9.out.blw)
          go_wp2_with fail
          refine HRB.out.mono ?_
          rintro e wb ⟨vv, rfl, Hown, hbb⟩
          obtain ⟨A9, c9, rfl, hc9, hr9⟩ := own_rd Hown.out
          have HF2 : Hid (F = pkL IB ++ [UInt8.ofNat (C2.crc8 0 (pkL IB))]) := HF.out
          have hbbz := hbb.size
          have Hbb := Lib.hid (bnext Hb9.out hbb)
          have Hle := Lib.hid Hb9.out.size
          clear HF HI H9 HE9 HRB Hb9
          generalize pkL IB = S9 at *
          have HS8 := Lib.hid (C2.refSum8_any S9 A9 c9 wb hr9 (by omega))
          have Hown2 := Lib.hid Hown.out
          rw [← C2.tells8] at HS8
          clear hr9 Hown hbb hc9
          have hlt : C2.crc8 0 S9 < 256 := C2.crc8_lt 0 (by decide) S9
          have Hbl : Hid (bv S9 ++ [.int .u8 (C2.crc8 0 S9 : Nat)] = bv F) := by
            show _ = _
            rw [HF2.out, bv_append]
            simp only [bv, List.map_cons, List.map_nil, UInt8.toNat_ofNat']
            rw [Nat.mod_eq_of_lt (show C2.crc8 0 S9 < 2 ^ 8 from hlt)]
          have Hll : Hid (F.length = S9.length + 1) := by show _ = _; rw [HF2.out]; simp
          generalize C2.crc8 0 S9 = s9 at *
          go_wp2_with fail
          refine HS8.out.mono ?_
          rintro e ws ⟨rfl, hbs⟩
          have Hown3 := Lib.hid (ownsRow_below Hown2.out hbs)
          have Hb3 := Lib.hid (bnext Hbb.out hbs)
          have hsz3 := hbs.size
          clear HS8 Hown2 Hbb hbs
          have hws : w.heap.size ≤ ws.heap.size := by have := Hle.out; omega
          have hu8 : IntKind.u8.wrap (s9 : Int) = s9 := by rw [IntKind.wrap_u8]; omega
          go_wp2_with (at_builtin; refine app1 (w0 := w) rfl _ _ 28 rfl Tryd.underlying28 C3.info_u8 rfl (by decide) rfl (ownsRow_less Hown3.out Hle.out) (Nat.le_refl _) hws Hb3.out rfl rfl (C3.one_u8 _) (by omega) (by unfold maxLen; omega) ?_; intro v1 wf own1 hbf hsf; have Hown9 := Lib.hid own1; clear own1)
          go_ret
          refine ⟨_, rfl, ?_, hbf⟩
          have h9 := Hown9.out
          rw [show bv S9 ++ (#[Value.int .u8 (s9 : Int)]).toList = bv F from Hbl.out, ← Hll.out] at h9
          exact h9
        have hlow : ¬ ((rc : Int) > 12) := by omega
        have HE9 : Hid (IB = _) := HE.out.trans (by rw [ratI, if_neg c12, if_neg c13, if_neg c14, List.append_nil])
        clear c12 c13 c14 hrf
        have HRB : Hid (Calls Tryd.prog 41 #[vu] wu fun e w' => ∃ v, e = .returned v ∧ Hid (w'.ownsRow wu.heap.size 5 1 v (pkL IB).length (bv (pkL IB))) ∧ Below wu.heap.size wu w') := by
          have hbit : ∀ b ∈ IB, b < 2 := by rw [HE9.out]; exact vb_lt2 _ _ _ Hpl.out
          have hS9 := HS2.out.own
          have hl9 := HS2.out.len
          rw [← HE9.out] at hS9 hl9
          obtain ⟨A9, c9, h9, -, -, hr9, -⟩ := own_rd4 hS9
          rw [h9]
          exact RBytesL_any IB hbit A9 c9 wu hr9 (by omega)
        have hIBl : (pkL IB).length ≤ 1000 := by rw [HE9.out, pkL_length]; have := HS2.out.len; omega
        have Hb9 := Lib.hid (bnext Hb0.out HS2.out.blw)
        go_wp2_with fail
        refine HRB.out.mono ?_
        rintro e wb ⟨vv, rfl, Hown, hbb⟩
        obtain ⟨A9, c9, rfl, hc9, hr9⟩ := own_rd Hown.out
        have HF2 : Hid (F = pkL IB ++ [UInt8.ofNat (C2.crc8 0 (pkL IB))]) := HF.out
        have hbbz := hbb.size
        have Hbb := Lib.hid (bnext Hb9.out hbb)
        have Hle := Lib.hid Hb9.out.size
        clear HF HI HS2 HE9 HRB Hb9
        generalize pkL IB = S9 at *
        have HS8 := Lib.hid (C2.refSum8_any S9 A9 c9 wb hr9 (by omega))
        have Hown2 := Lib.hid Hown.out
        rw [← C2.tells8] at HS8
        clear hr9 Hown hbb hc9
        have hlt : C2.crc8 0 S9 < 256 := C2.crc8_lt 0 (by decide) S9
        have Hbl : Hid (bv S9 ++ [.int .u8 (C2.crc8 0 S9 : Nat)] = bv F) := by
          show _ = _
          rw [HF2.out, bv_append]
          simp only [bv, List.map_cons, List.map_nil, UInt8.toNat_ofNat']
          rw [Nat.mod_eq_of_lt (show C2.crc8 0 S9 < 2 ^ 8 from hlt)]
        have Hll : Hid (F.length = S9.length + 1) := by show _ = _; rw [HF2.out]; simp
        generalize C2.crc8 0 S9 = s9 at *
        go_wp2_with fail
        refine HS8.out.mono ?_
        rintro e ws ⟨rfl, hbs⟩
        have Hown3 := Lib.hid (ownsRow_below Hown2.out hbs)
        have Hb3 := Lib.hid (bnext Hbb.out hbs)
        have hsz3 := hbs.size
        clear HS8 Hown2 Hbb hbs
        have hws : w.heap.size ≤ ws.heap.size := by have := Hle.out; omega
        have hu8 : IntKind.u8.wrap (s9 : Int) = s9 := by rw [IntKind.wrap_u8]; omega
        go_wp2_with (at_builtin; refine app1 (w0 := w) rfl _ _ 28 rfl Tryd.underlying28 C3.info_u8 rfl (by decide) rfl (ownsRow_less Hown3.out Hle.out) (Nat.le_refl _) hws Hb3.out rfl rfl (C3.one_u8 _) (by omega) (by unfold maxLen; omega) ?_; intro v1 wf own1 hbf hsf; have Hown9 := Lib.hid own1; clear own1)
        go_ret
        refine ⟨_, rfl, ?_, hbf⟩
        have h9 := Hown9.out
        rw [show bv S9 ++ (#[Value.int .u8 (s9 : Int)]).toList = bv F from Hbl.out, ← Hll.out] at h9
        exact h9
    · have c6' : ((bc : Int) == 6) = false := by rw [beq_eq_false_iff_ne]; omega
      by_cases c7 : bc = 7
      · subst c7
        obtain ⟨h1, h2⟩ := of_decide_eq_true (show decide (1 ≤ b ∧ b ≤ 65535) = true from hbf)
        obtain ⟨x, rfl⟩ : ∃ x : Nat, b = (x : Int) + 1 := ⟨(b - 1).toNat, by omega⟩
        have hx : x < 65535 := by omega
        clear h1 h2 hbf
        have HE : Hid (IB = (pre ++ vb x 16) ++ ratI rc r) := HI.out.trans (by rw [show blkI 7 ((x : Int) + 1) = vb x 16 from by rw [blkI, if_neg (by decide), if_pos rfl, Int.add_sub_cancel, Int.toNat_natCast]])
        go_wp2_with fail
        refine (RPut_st HS.out 16 x (by omega) (by decide) (by decide)).mono ?_
        rintro e wu ⟨vu, qu, rfl, H⟩
        have HS2 := Lib.hid H
        clear H HS f1 f6 f2 f7
        have f1 := (HB.out.below HS2.out.blw).c 1 (.int .i64 (7 : Nat)) rfl
        have f2 := (HB.out.below HS2.out.blw).c 2 (.int .i64 rc) rfl
        have f7 := (HB.out.below HS2.out.blw).c 7 (.int .i64 r) rfl
        by_cases c12 : rc = 12
        · subst c12
          obtain ⟨hr0, hrm, hrq⟩ := of_decide_eq_true (show decide (0 ≤ r ∧ r % 1000 = 0 ∧ r / 1000 < 256) = true from hrf)
          obtain ⟨y, hy⟩ : ∃ y : Nat, r / 1000 = y := ⟨(r / 1000).toNat, by omega⟩
          have hq2 : r.tdiv 1000 = (y : Int) := by rw [Int.tdiv_eq_ediv_of_nonneg hr0]; exact hy
          have hy8 : y < 256 := by omega
          clear hrm hrq hrf
          have HE9 : Hid (IB = _ ++ vb y 8) := HE.out.trans (by rw [ratI, if_pos rfl, hy, Int.toNat_natCast])
          go_wp2_with fail
          refine (RPut_st HS2.out 8 y (by omega) (by decide) (by decide)).mono ?_
          rintro e wt ⟨vt, qt, rfl, H⟩
          have H9 := Lib.hid H
          have f2 := (HB.out.below H9.out.blw).c 2 (.int .i64 (12 : Nat)) rfl
          clear H f7 HS2
          have HRB : Hid (Calls Tryd.prog 41 #[vt] wt fun e w' => ∃ v, e = .returned v ∧ Hid (w'.ownsRow wt.heap.size 5 1 v (pkL IB).length (bv (pkL IB))) ∧ Below wt.heap.size wt w') := by
            have hbit : ∀ b ∈ IB, b < 2 := by rw [HE9.out]; exact vb_lt2 _ _ _ (vb_lt2 _ _ _ Hpl.out)
            have hS9 := H9.out.own
            have hl9 := H9.out.len
            rw [← HE9.out] at hS9 hl9
            obtain ⟨A9, c9, h9, -, -, hr9, -⟩ := own_rd4 hS9
            rw [h9]
            exact RBytesL_any IB hbit A9 c9 wt hr9 (by omega)
          have hIBl : (pkL IB).length ≤ 1000 := by rw [HE9.out, pkL_length]; have := H9.out.len; omega
          have Hb9 := Lib.hid (bnext Hb0.out H9.out.blw)
          go_wp2_with fail
          refine HRB.out.mono ?_
          rintro e wb ⟨vv, rfl, Hown, hbb⟩
          obtain ⟨A9, c9, rfl, hc9, hr9⟩ := own_rd Hown.out
          have HF2 : Hid (F = pkL IB ++ [UInt8.ofNat (C2.crc8 0 (pkL IB))]) := HF.out
          have hbbz := hbb.size
          have Hbb := Lib.hid (bnext Hb9.out hbb)
          have Hle := Lib.hid Hb9.out.size
          clear HF HI H9 HE9 HRB Hb9
          generalize pkL IB = S9 at *
          have HS8 := Lib.hid (C2.refSum8_any S9 A9 c9 wb hr9 (by omega))
          have Hown2 := Lib.hid Hown.out
          rw [← C2.tells8] at HS8
          clear hr9 Hown hbb hc9
          have hlt : C2.crc8 0 S9 < 256 := C2.crc8_lt 0 (by decide) S9
          have Hbl : Hid (bv S9 ++ [.int .u8 (C2.crc8 0 S9 : Nat)] = bv F) := by
            show _ = _
            rw [HF2.out, bv_append]
            simp only [bv, List.map_cons, List.map_nil, UInt8.toNat_ofNat']
            rw [Nat.mod_eq_of_lt (show C2.crc8 0 S9 < 2 ^ 8 from hlt)]
          have Hll : Hid (F.length = S9.length + 1) := by show _ = _; rw [HF2.out]; simp
          generalize C2.crc8 0 S9 = s9 at *
          go_wp2_with fail
          refine HS8.out.mono ?_
          rintro e ws ⟨rfl, hbs⟩
          have Hown3 := Lib.hid (ownsRow_below Hown2.out hbs)
          have Hb3 := Lib.hid (bnext Hbb.out hbs)
          have hsz3 := hbs.size
          clear HS8 Hown2 Hbb hbs
          have hws : w.heap.size ≤ ws.heap.size := by have := Hle.out; omega
          have hu8 : IntKind.u8.wrap (s9 : Int) = s9 := by rw [IntKind.wrap_u8]; omega
          go_wp2_with (at_builtin; refine app1 (w0 := w) rfl _ _ 28 rfl Tryd.underlying28 C3.info_u8 rfl (by decide) rfl (ownsRow_less Hown3.out Hle.out) (Nat.le_refl _) hws Hb3.out rfl rfl (C3.one_u8 _) (by omega) (by unfold maxLen; omega) ?_; intro v1 wf own1 hbf hsf; have Hown9 := Lib.hid own1; clear own1)
          go_ret
          refine ⟨_, rfl, ?_, hbf⟩
          have h9 := Hown9.out
          rw [show bv S9 ++ (#[Value.int .u8 (s9 : Int)]).toList = bv F from Hbl.out, ← Hll.out] at h9
          exact h9
        · have c12' : ((rc : Int) == 12) = false := by rw [beq_eq_false_iff_ne]; omega
          by_cases c13 : rc = 13
          · subst c13
            obtain ⟨hr0, hrm, hrq⟩ := of_decide_eq_true (show decide (0 ≤ r ∧ r % 1 = 0 ∧ r / 1 < 65536) = true from hrf)
            obtain ⟨y, rfl⟩ : ∃ y : Nat, r = y := ⟨r.toNat, by omega⟩
            have hy8 : y < 65536 := by omega
            have hq2 : (y : Int).tdiv 1 = (y : Int) := Int.tdiv_one _
            clear hrm hrq hrf c12 c12'
            have HE9 : Hid (IB = _ ++ vb y 16) := HE.out.trans (by rw [ratI, if_neg (by decide), if_pos rfl, Int.toNat_natCast])
            have HU := Lib.hid (fun W => Unit_any 13 W)
            have e1 : unU 13 = 1 := rfl
            rw [e1] at HU
            clear e1
            have hwy : IntKind.i64.wrap (y : Int) = y := by rw [IntKind.wrap_i64]; omega
            have HQ : Hid (∀ W', Below w0.heap.size w0 W' → W'.cell? ⟨w.heap.size, 2, none⟩ = some (.int .i64 (13 : Nat)) ∧ W'.cell? ⟨w.heap.size, 7, none⟩ = some (.int .i64 (y : Int))) := fun W' hb => ⟨(HB.out.below hb).c 2 _ rfl, (HB.out.below hb).c 7 _ rfl⟩
            go_wp2_with fail
            refine wp_region_headN (fun W' => W'.cell? ⟨w.heap.size, 2, none⟩ = some (.int .i64 (13 : Nat)) ∧ W'.cell? ⟨w.heap.size, 7, none⟩ = some (.int .i64 (y : Int))) 7 5 (by kernel_rfl) rfl (by kernel_rfl) (HQ.out _ HS2.out.blw.drew) ?_
            simp only [List.take_succ_cons, List.take_zero]
            refine' wpHead_op _ (by rfl) ?hv23 ?hrest23
            case hv23 => (intro w' hS'; (try dsimp only at hS'); go_simp; try with_reducible rfl)
            try simp only [Act.put, List.setIfInBounds_toArray, List.set_cons_zero, List.set_cons_succ]
            refine' wpHead_op _ (by rfl) ?hv24 ?hrest24
            case hv24 => (intro w' hS'; (try dsimp only at hS'); go_simp; try with_reducible rfl)
            try simp only [Act.put, List.setIfInBounds_toArray, List.set_cons_zero, List.set_cons_succ]
            refine' wpHead_op _ (by rfl) ?hv25 ?hrest25
            case hv25 => (intro w' hS'; (try dsimp only at hS'); go_simp; try with_reducible rfl)
            try simp only [Act.put, List.setIfInBounds_toArray, List.set_cons_zero, List.set_cons_succ]
            refine' wpHead_op _ (by rfl) ?hv26 ?hrest26
            case hv26 => (intro w' hS'; (try dsimp only at hS'); go_simp; try with_reducible rfl)
            try simp only [Act.put, List.setIfInBounds_toArray, List.set_cons_zero, List.set_cons_succ]
            refine' wpHead_op _ (by rfl) ?hv27 ?hrest27
            case hv27 => (intro w' hS'; (try dsimp only at hS'); go_simp; try with_reducible rfl)
            try simp only [Act.put, List.setIfInBounds_toArray, List.set_cons_zero, List.set_cons_succ]
            refine' wpHead_call (.int .i64 1) _ _ (by rfl) ?hv28 ?hc28 ?hrest28
            case hv28 => (intro w'; go_simp; first | done | (refine ⟨?_, ?_⟩ <;> with_reducible rfl) | with_reducible rfl)
            case hc28 => exact (fun W' _ => HU.out W')
            try simp only [Act.put, List.setIfInBounds_toArray, List.set_cons_zero, List.set_cons_succ]
            refine' wpHead_op _ (by rfl) ?hv29 ?hrest29
            case hv29 => (intro w' hS'; (try dsimp only at hS'); go_simp; try with_reducible rfl)
            try simp only [Act.put, List.setIfInBounds_toArray, List.set_cons_zero, List.set_cons_succ]
            refine wpHead_nil ?_
            obtain ⟨wd, hwd, hsd⟩ : ∃ wd, wu.drew = wd ∧ Sl w0 wd vu _ _ := ⟨_, rfl, HS2.out.below (Below.refl _ _).drew⟩
            rw [hwd]
            clear hwd f2 f7 HS2
            refine wpAnyH_next (i := 7) (by kernel_rfl) rfl (by rfl) (fun K hK => ?_)
            go_simp
            refine (RPut_st hsd 16 y (by omega) (by decide) (by decide)).mono ?_
            rintro e wt ⟨vt, qt, rfl, H⟩
            have H9 := Lib.hid H
            clear hsd H
            refine hK.out _ _ (HQ.out _ H9.out.blw) ?_
            clear hK K
            try simp only [Act.put, List.setIfInBounds_toArray, List.set_cons_zero, List.set_cons_succ]
            refine wpAnyH_tail (k := 8) (by kernel_rfl) rfl (by kernel_rfl) (HQ.out _ H9.out.blw) ?_
            simp only [List.drop_succ_cons, List.drop_zero]
            refine' wpHead_op _ (by rfl) ?hv30 ?hrest30
            case hv30 => (intro w' hS'; (try dsimp only at hS'); go_simp; try with_reducible rfl)
            try simp only [Act.put, List.setIfInBounds_toArray, List.set_cons_zero, List.set_cons_succ]
            refine' wpHead_op _ (by rfl) ?hv31 ?hrest31
            case hv31 => (intro w' hS'; (try dsimp only at hS'); go_simp; try with_reducible rfl)
            try simp only [Act.put, List.setIfInBounds_toArray, List.set_cons_zero, List.set_cons_succ]
            refine' wpHead_op _ (by rfl) ?hv32 ?hrest32
            case hv32 => (intro w' hS'; (try dsimp only at hS'); go_simp; try with_reducible rfl)
            try simp only [Act.put, List.setIfInBounds_toArray, List.set_cons_zero, List.set_cons_succ]
            refine' wpHead_op _ (by rfl) ?hv33 ?hrest33
            case hv33 => (intro w' hS'; (try dsimp only at hS'); go_simp; try with_reducible rfl)
            try simp only [Act.put, List.setIfInBounds_toArray, List.set_cons_zero, List.set_cons_succ]
            refine wpHead_nil ?_
            refine wpAnyH_doneN (by kernel_rfl) ?_
            clear HQ
            have HRB : Hid (Calls Tryd.prog 41 #[vt] wt fun e w' => ∃ v, e = .returned v ∧ Hid (w'.ownsRow wt.heap.size 5 1 v (pkL IB).length (bv (pkL IB))) ∧ Below wt.heap.size wt w') := by
              have hbit : ∀ b ∈ IB, b < 2 := by rw [HE9.out]; exact vb_lt2 _ _ _ (vb_lt2 _ _ _ Hpl.out)
              have hS9 := H9.out.own
              have hl9 := H9.out.len
              rw [← HE9.out] at hS9 hl9
              obtain ⟨A9, c9, h9, -, -, hr9, -⟩ := own_rd4 hS9
              rw [h9]
              exact RBytesL_any IB hbit A9 c9 wt hr9 (by omega)
            have hIBl : (pkL IB).length ≤ 1000 := by rw [HE9.out, pkL_length]; have := H9.out.len; omega
            have Hb9 := Lib.hid (bnext Hb0.out H9.out.blw)
            go_wp2_with fail
            refine HRB.out.mono ?_
            rintro e wb ⟨vv, rfl, Hown, hbb⟩
            obtain ⟨A9, c9, rfl, hc9, hr9⟩ := own_rd Hown.out
            have HF2 : Hid (F = pkL IB ++ [UInt8.ofNat (C2.crc8 0 (pkL IB))]) := HF.out
            have hbbz := hbb.size
            have Hbb := Lib.hid (bnext Hb9.out hbb)
            have Hle := Lib.hid Hb9.out.size
            clear HF HI H9 HE9 HRB Hb9
            generalize pkL IB = S9 at *
            have HS8 := Lib.hid (C2.refSum8_any S9 A9 c9 wb hr9 (by omega))
            have Hown2 := Lib.hid Hown.out
            rw [← C2.tells8] at HS8
            clear hr9 Hown hbb hc9
            have hlt : C2.crc8 0 S9 < 256 := C2.crc8_lt 0 (by decide) S9
            have Hbl : Hid (bv S9 ++ [.int .u8 (C2.crc8 0 S9 : Nat)] = bv F) := by
              show _ = _
              rw [HF2.out, bv_append]
              simp only [bv, List.map_cons, List.map_nil, UInt8.toNat_ofNat']
              rw [Nat.mod_eq_of_lt (show C2.crc8 0 S9 < 2 ^ 8 from hlt)]
            have Hll : Hid (F.length = S9.length + 1) := by show _ = _; rw [HF2.out]; simp
            generalize C2.crc8 0 S9 = s9 at *
            go_wp2_with fail
            refine HS8.out.mono ?_
            rintro e ws ⟨rfl, hbs⟩
            have Hown3 := Lib.hid (ownsRow_below Hown2.out hbs)
            have Hb3 := Lib.hid (bnext Hbb.out hbs)
            have hsz3 := hbs.size
            clear HS8 Hown2 Hbb hbs
            have hws : w.heap.size ≤ ws.heap.size := by have := Hle.out; omega
            have hu8 : IntKind.u8.wrap (s9 : Int) = s9 := by rw [IntKind.wrap_u8]; omega
            go_wp2_with (at_builtin; refine app1 (w0 := w) rfl _ _ 28 rfl Tryd.underlying28 C3.info_u8 rfl (by decide) rfl (ownsRow_less Hown3.out Hle.out) (Nat.le_refl _) hws Hb3.out rfl rfl (C3.one_u8 _) (by omega) (by unfold maxLen; omega) ?_; intro v1 wf own1 hbf hsf; have Hown9 := Lib.hid own1; clear own1)
            go_ret
            refine ⟨_, rfl, ?_, hbf⟩
            have h9 := Hown9.out
            rw [show bv S9 ++ (#[Value.int .u8 (s9 : Int)]).toList = bv F from Hbl.out, ← Hll.out] at h9
            exact h9
          by_cases c14 : rc = 14
          · subst c14
            obtain ⟨hr0, hrm, hrq⟩ := of_decide_eq_true (show decide (0 ≤ r ∧ r % 10 = 0 ∧ r / 10 < 65536) = true from hrf)
            obtain ⟨y, hy⟩ : ∃ y : Nat, r / 10 = y := ⟨(r / 10).toNat, by omega⟩
            have hq2 : r.tdiv 10 = (y : Int) := by rw [Int.tdiv_eq_ediv_of_nonneg hr0]; exact hy
            have hy8 : y < 65536 := by omega
            clear hrm hrq hrf c12 c12' c13
            have HE9 : Hid (IB = _ ++ vb y 16) := HE.out.trans (by rw [ratI, if_neg (by decide), if_neg (by decide), if_pos rfl, hy, Int.toNat_natCast])
            have HU := Lib.hid (fun W => Unit_any 14 W)
            have e1 : unU 14 = 10 := rfl
            rw [e1] at HU
            clear e1
            have hwy : IntKind.i64.wrap (y : Int) = y := by rw [IntKind.wrap_i64]; omega
            have HQ : Hid (∀ W', Below w0.heap.size w0 W' → W'.cell? ⟨w.heap.size, 2, none⟩ = some (.int .i64 (14 : Nat)) ∧ W'.cell? ⟨w.heap.size, 7, none⟩ = some (.int .i64 r)) := fun W' hb => ⟨(HB.out.below hb).c 2 _ rfl, (HB.out.below hb).c 7 _ rfl⟩
            go_wp2_with fail
            refine wp_region_headN (fun W' => W'.cell? ⟨w.heap.size, 2, none⟩ = some (.int .i64 (14 : Nat)) ∧ W'.cell? ⟨w.heap.size, 7, none⟩ = some (.int .i64 r)) 7 5 (by kernel_rfl) rfl (by kernel_rfl) (HQ.out _ HS2.out.blw.drew) ?_
            simp only [List.take_succ_cons, List.take_zero]
            refine' wpHead_op _ (by rfl) ?hv34 ?hrest34
            case hv34 => (intro w' hS'; (try dsimp only at hS'); go_simp; try with_reducible rfl)
            try simp only [Act.put, List.setIfInBounds_toArray, List.set_cons_zero, List.set_cons_succ]
            refine' wpHead_op _ (by rfl) ?hv35 ?hrest35
            case hv35 => (intro w' hS'; (try dsimp only at hS'); go_simp; try with_reducible rfl)
            try simp only [Act.put, List.setIfInBounds_toArray, List.set_cons_zero, List.set_cons_succ]
            refine' wpHead_op _ (by rfl) ?hv36 ?hrest36
            case hv36 => (intro w' hS'; (try dsimp only at hS'); go_simp; try with_reducible rfl)
            try simp only [Act.put, List.setIfInBounds_toArray, List.set_cons_zero, List.set_cons_succ]
            refine' wpHead_op _ (by rfl) ?hv37 ?hrest37
            case hv37 => (intro w' hS'; (try dsimp only at hS'); go_simp; try with_reducible rfl)
            try simp only [Act.put, List.setIfInBounds_toArray, List.set_cons_zero, List.set_cons_succ]
            refine' wpHead_op _ (by rfl) ?hv38 ?hrest38
            case hv38 => (intro w' hS'; (try dsimp only at hS'); go_simp; try with_reducible rfl)
            try simp only [Act.put, List.setIfInBounds_toArray, List.set_cons_zero, List.set_cons_succ]
            refine' wpHead_call (.int .i64 10) _ _ (by rfl) ?hv39 ?hc39 ?hrest39
            case hv39 => (intro w'; go_simp; first | done | (refine ⟨?_, ?_⟩ <;> with_reducible rfl) | with_reducible rfl)
            case hc39 => exact (fun W' _ => HU.out W')
            try simp only [Act.put, List.setIfInBounds_toArray, List.set_cons_zero, List.set_cons_succ]
            refine' wpHead_op _ (by rfl) ?hv40 ?hrest40
            case hv40 => (intro w' hS'; (try dsimp only at hS'); go_simp; try with_reducible rfl)
            try simp only [Act.put, List.setIfInBounds_toArray, List.set_cons_zero, List.set_cons_succ]
            refine wpHead_nil ?_
            obtain ⟨wd, hwd, hsd⟩ : ∃ wd, wu.drew = wd ∧ Sl w0 wd vu _ _ := ⟨_, rfl, HS2.out.below (Below.refl _ _).drew⟩
            rw [hwd]
            clear hwd f2 f7 HS2
            refine wpAnyH_next (i := 7) (by kernel_rfl) rfl (by rfl) (fun K hK => ?_)
            go_simp
            refine (RPut_st hsd 16 y (by omega) (by decide) (by decide)).mono ?_
            rintro e wt ⟨vt, qt, rfl, H⟩
            have H9 := Lib.hid H
            clear hsd H
            refine hK.out _ _ (HQ.out _ H9.out.blw) ?_
            clear hK K
            try simp only [Act.put, List.setIfInBounds_toArray, List.set_cons_zero, List.set_cons_succ]
            refine wpAnyH_tail (k := 8) (by kernel_rfl) rfl (by kernel_rfl) (HQ.out _ H9.out.blw) ?_
            simp only [List.drop_succ_cons, List.drop_zero]
            refine' wpHead_op _ (by rfl) ?hv41 ?hrest41
            case hv41 => (intro w' hS'; (try dsimp only at hS'); go_simp; try with_reducible rfl)
            try simp only [Act.put, List.setIfInBounds_toArray, List.set_cons_zero, List.set_cons_succ]
            refine' wpHead_op _ (by rfl) ?hv42 ?hrest42
            case hv42 => (intro w' hS'; (try dsimp only at hS'); go_simp; try with_reducible rfl)
            try simp only [Act.put, List.setIfInBounds_toArray, List.set_cons_zero, List.set_cons_succ]
            refine' wpHead_op _ (by rfl) ?hv43 ?hrest43
            case hv43 => (intro w' hS'; (try dsimp only at hS'); go_simp; try with_reducible rfl)
            try simp only [Act.put, List.setIfInBounds_toArray, List.set_cons_zero, List.set_cons_succ]
            refine' wpHead_op _ (by rfl) ?hv44 ?hrest44
            case hv44 => (intro w' hS'; (try dsimp only at hS'); go_simp; try with_reducible rfl)
            try simp only [Act.put, List.setIfInBounds_toArray, List.set_cons_zero, List.set_cons_succ]
            refine wpHead_nil ?_
            refine wpAnyH_doneN (by kernel_rfl) ?_
            clear HQ
            have HRB : Hid (Calls Tryd.prog 41 #[vt] wt fun e w' => ∃ v, e = .returned v ∧ Hid (w'.ownsRow wt.heap.size 5 1 v (pkL IB).length (bv (pkL IB))) ∧ Below wt.heap.size wt w') := by
              have hbit : ∀ b ∈ IB, b < 2 := by rw [HE9.out]; exact vb_lt2 _ _ _ (vb_lt2 _ _ _ Hpl.out)
              have hS9 := H9.out.own
              have hl9 := H9.out.len
              rw [← HE9.out] at hS9 hl9
              obtain ⟨A9, c9, h9, -, -, hr9, -⟩ := own_rd4 hS9
              rw [h9]
              exact RBytesL_any IB hbit A9 c9 wt hr9 (by omega)
            have hIBl : (pkL IB).length ≤ 1000 := by rw [HE9.out, pkL_length]; have := H9.out.len; omega
            have Hb9 := Lib.hid (bnext Hb0.out H9.out.blw)
            go_wp2_with fail
            refine HRB.out.mono ?_
            rintro e wb ⟨vv, rfl, Hown, hbb⟩
            obtain ⟨A9, c9, rfl, hc9, hr9⟩ := own_rd Hown.out
            have HF2 : Hid (F = pkL IB ++ [UInt8.ofNat (C2.crc8 0 (pkL IB))]) := HF.out
            have hbbz := hbb.size
            have Hbb := Lib.hid (bnext Hb9.out hbb)
            have Hle := Lib.hid Hb9.out.size
            clear HF HI H9 HE9 HRB Hb9
            generalize pkL IB = S9 at *
            have HS8 := Lib.hid (C2.refSum8_any S9 A9 c9 wb hr9 (by omega))
            have Hown2 := Lib.hid Hown.out
            rw [← C2.tells8] at HS8
            clear hr9 Hown hbb hc9
            have hlt : C2.crc8 0 S9 < 256 := C2.crc8_lt 0 (by decide) S9
            have Hbl : Hid (bv S9 ++ [.int .u8 (C2.crc8 0 S9 : Nat)] = bv F) := by
              show _ = _
              rw [HF2.out, bv_append]
              simp only [bv, List.map_cons, List.map_nil, UInt8.toNat_ofNat']
              rw [Nat.mod_eq_of_lt (show C2.crc8 0 S9 < 2 ^ 8 from hlt)]
            have Hll : Hid (F.length = S9.length + 1) := by show _ = _; rw [HF2.out]; simp
            generalize C2.crc8 0 S9 = s9 at *
            go_wp2_with fail
            refine HS8.out.mono ?_
            rintro e ws ⟨rfl, hbs⟩
            have Hown3 := Lib.hid (ownsRow_below Hown2.out hbs)
            have Hb3 := Lib.hid (bnext Hbb.out hbs)
            have hsz3 := hbs.size
            clear HS8 Hown2 Hbb hbs
            have hws : w.heap.size ≤ ws.heap.size := by have := Hle.out; omega
            have hu8 : IntKind.u8.wrap (s9 : Int) = s9 := by rw [IntKind.wrap_u8]; omega
            go_wp2_with (at_builtin; refine app1 (w0 := w) rfl _ _ 28 rfl Tryd.underlying28 C3.info_u8 rfl (by decide) rfl (ownsRow_less Hown3.out Hle.out) (Nat.le_refl _) hws Hb3.out rfl rfl (C3.one_u8 _) (by omega) (by unfold maxLen; omega) ?_; intro v1 wf own1 hbf hsf; have Hown9 := Lib.hid own1; clear own1)
            go_ret
            refine ⟨_, rfl, ?_, hbf⟩
            have h9 := Hown9.out
            rw [show bv S9 ++ (#[Value.int .u8 (s9 : Int)]).toList = bv F from Hbl.out, ← Hll.out] at h9
            exact h9
          have hlow : ¬ ((rc : Int) > 12) := by omega
          have HE9 : Hid (IB = _) := HE.out.trans (by rw [ratI, if_neg c12, if_neg c13, if_neg c14, List.append_nil])
          clear c12 c13 c14 hrf
          have HRB : Hid (Calls Tryd.prog 41 #[vu] wu fun e w' => ∃ v, e = .returned v ∧ Hid (w'.ownsRow wu.heap.size 5 1 v (pkL IB).length (bv (pkL IB))) ∧ Below wu.heap.size wu w') := by
            have hbit : ∀ b ∈ IB, b < 2 := by rw [HE9.out]; exact vb_lt2 _ _ _ Hpl.out
            have hS9 := HS2.out.own
            have hl9 := HS2.out.len
            rw [← HE9.out] at hS9 hl9
            obtain ⟨A9, c9, h9, -, -, hr9, -⟩ := own_rd4 hS9
            rw [h9]
            exact RBytesL_any IB hbit A9 c9 wu hr9 (by omega)
          have hIBl : (pkL IB).length ≤ 1000 := by rw [HE9.out, pkL_length]; have := HS2.out.len; omega
          have Hb9 := Lib.hid (bnext Hb0.out HS2.out.blw)
          go_wp2_with fail
          refine HRB.out.mono ?_
          rintro e wb ⟨vv, rfl, Hown, hbb⟩
          obtain ⟨A9, c9, rfl, hc9, hr9⟩ := own_rd Hown.out
          have HF2 : Hid (F = pkL IB ++ [UInt8.ofNat (C2.crc8 0 (pkL IB))]) := HF.out
          have hbbz := hbb.size
          have Hbb := Lib.hid (bnext Hb9.out hbb)
          have Hle := Lib.hid Hb9.out.size
          clear HF HI HS2 HE9 HRB Hb9
          generalize pkL IB = S9 at *
          have HS8 := Lib.hid (C2.refSum8_any S9 A9 c9 wb hr9 (by omega))
          have Hown2 := Lib.hid Hown.out
          rw [← C2.tells8] at HS8
          clear hr9 Hown hbb hc9
          have hlt : C2.crc8 0 S9 < 256 := C2.crc8_lt 0 (by decide) S9
          have Hbl : Hid (bv S9 ++ [.int .u8 (C2.crc8 0 S9 : Nat)] = bv F) := by
            show _ = _
            rw [HF2.out, bv_append]
            simp only [bv, List.map_cons, List.map_nil, UInt8.toNat_ofNat']
            rw [Nat.mod_eq_of_lt (show C2.crc8 0 S9 < 2 ^ 8 from hlt)]
          have Hll : Hid (F.length = S9.length + 1) := by show _ = _; rw [HF2.out]; simp
          generalize C2.crc8 0 S9 = s9 at *
          go_wp2_with fail
          refine HS8.out.mono ?_
          rintro e ws ⟨rfl, hbs⟩
          have Hown3 := Lib.hid (ownsRow_below Hown2.out hbs)
          have Hb3 := Lib.hid (bnext Hbb.out hbs)
          have hsz3 := hbs.size
          clear HS8 Hown2 Hbb hbs
          have hws : w.heap.size ≤ ws.heap.size := by have := Hle.out; omega
          have hu8 : IntKind.u8.wrap (s9 : Int) = s9 := by rw [IntKind.wrap_u8]; omega
          go_wp2_with (at_builtin; refine app1 (w0 := w) rfl _ _ 28 rfl Tryd.underlying28 C3.info_u8 rfl (by decide) rfl (ownsRow_less Hown3.out Hle.out) (Nat.le_refl _) hws Hb3.out rfl rfl (C3.one_u8 _) (by omega) (by unfold maxLen; omega) ?_; intro v1 wf own1 hbf hsf; have Hown9 := Lib.hid own1; clear own1)
          go_ret
          refine ⟨_, rfl, ?_, hbf⟩
          have h9 := Hown9.out
          rw [show bv S9 ++ (#[Value.int .u8 (s9 : Int)]).toList = bv F from Hbl.out, ← Hll.out] at h9
          exact h9
      have c7' : ((bc : Int) == 7) = false := by rw [beq_eq_false_iff_ne]; omega
      have HE : Hid (IB = pre ++ ratI rc r) := HI.out.trans (by rw [blkI, if_neg c6, if_neg c7, List.append_nil])
      clear c6 c7 hbf
      by_cases c12 : rc = 12
      · subst c12
        obtain ⟨hr0, hrm, hrq⟩ := of_decide_eq_true (show decide (0 ≤ r ∧ r % 1000 = 0 ∧ r / 1000 < 256) = true from hrf)
        obtain ⟨y, hy⟩ : ∃ y : Nat, r / 1000 = y := ⟨(r / 1000).toNat, by omega⟩
        have hq2 : r.tdiv 1000 = (y : Int) := by rw [Int.tdiv_eq_ediv_of_nonneg hr0]; exact hy
        have hy8 : y < 256 := by omega
        clear hrm hrq hrf
        have HE9 : Hid (IB = _ ++ vb y 8) := HE.out.trans (by rw [ratI, if_pos rfl, hy, Int.toNat_natCast])
        go_wp2_with fail
        refine (RPut_st HS.out 8 y (by omega) (by decide) (by decide)).mono ?_
        rintro e wt ⟨vt, qt, rfl, H⟩
        have H9 := Lib.hid H
        have f2 := (HB.out.below H9.out.blw).c 2 (.int .i64 (12 : Nat)) rfl
        clear H f7 HS
        have HRB : Hid (Calls Tryd.prog 41 #[vt] wt fun e w' => ∃ v, e = .returned v ∧ Hid (w'.ownsRow wt.heap.size 5 1 v (pkL IB).length (bv (pkL IB))) ∧ Below wt.heap.size wt w') := by
          have hbit : ∀ b ∈ IB, b < 2 := by rw [HE9.out]; exact vb_lt2 _ _ _ (Hpl.out)
          have hS9 := H9.out.own
          have hl9 := H9.out.len
          rw [← HE9.out] at hS9 hl9
          obtain ⟨A9, c9, h9, -, -, hr9, -⟩ := own_rd4 hS9
          rw [h9]
          exact RBytesL_any IB hbit A9 c9 wt hr9 (by omega)
        have hIBl : (pkL IB).length ≤ 1000 := by rw [HE9.out, pkL_length]; have := H9.out.len; omega
        have Hb9 := Lib.hid (bnext Hb0.out H9.out.blw)
        go_wp2_with fail
        refine HRB.out.mono ?_
        rintro e wb ⟨vv, rfl, Hown, hbb⟩
        obtain ⟨A9, c9, rfl, hc9, hr9⟩ := own_rd Hown.out
        have HF2 : Hid (F = pkL IB ++ [UInt8.ofNat (C2.crc8 0 (pkL IB))]) := HF.out
        have hbbz := hbb.size
        have Hbb := Lib.hid (bnext Hb9.out hbb)
        have Hle := Lib.hid Hb9.out.size
        clear HF HI H9 HE9 HRB Hb9
        generalize pkL IB = S9 at *
        have HS8 := Lib.hid (C2.refSum8_any S9 A9 c9 wb hr9 (by omega))
        have Hown2 := Lib.hid Hown.out
        rw [← C2.tells8] at HS8
        clear hr9 Hown hbb hc9
        have hlt : C2.crc8 0 S9 < 256 := C2.crc8_lt 0 (by decide) S9
        have Hbl : Hid (bv S9 ++ [.int .u8 (C2.crc8 0 S9 : Nat)] = bv F) := by
          show _ = _
          rw [HF2.out, bv_append]
          simp only [bv, List.map_cons, List.map_nil, UInt8.toNat_ofNat']
          rw [Nat.mod_eq_of_lt (show C2.crc8 0 S9 < 2 ^ 8 from hlt)]
        have Hll : Hid (F.length = S9.length + 1) := by show _ = _; rw [HF2.out]; simp
        generalize C2.crc8 0 S9 = s9 at *
        go_wp2_with fail
        refine HS8.out.mono ?_
        rintro e ws ⟨rfl, hbs⟩
        have Hown3 := Lib.hid (ownsRow_below Hown2.out hbs)
        have Hb3 := Lib.hid (bnext Hbb.out hbs)
        have hsz3 := hbs.size
        clear HS8 Hown2 Hbb hbs
        have hws : w.heap.size ≤ ws.heap.size := by have := Hle.out; omega
        have hu8 : IntKind.u8.wrap (s9 : Int) = s9 := by rw [IntKind.wrap_u8]; omega
        go_wp2_with (at_builtin; refine app1 (w0 := w) rfl _ _ 28 rfl Tryd.underlying28 C3.info_u8 rfl (by decide) rfl (ownsRow_less Hown3.out Hle.out) (Nat.le_refl _) hws Hb3.out rfl rfl (C3.one_u8 _) (by omega) (by unfold maxLen; omega) ?_; intro v1 wf own1 hbf hsf; have Hown9 := Lib.hid own1; clear own1)
        go_ret
        refine ⟨_, rfl, ?_, hbf⟩
        have h9 := Hown9.out
        rw [show bv S9 ++ (#[Value.int .u8 (s9 : Int)]).toList = bv F from Hbl.out, ← Hll.out] at h9
        exact h9
      · have c12' : ((rc : Int) == 12) = false := by rw [beq_eq_false_iff_ne]; omega
        by_cases c13 : rc = 13
        · subst c13
          obtain ⟨hr0, hrm, hrq⟩ := of_decide_eq_true (show decide (0 ≤ r ∧ r % 1 = 0 ∧ r / 1 < 65536) = true from hrf)
          obtain ⟨y, rfl⟩ : ∃ y : Nat, r = y := ⟨r.toNat, by omega⟩
          have hy8 : y < 65536 := by omega
          have hq2 : (y : Int).tdiv 1 = (y : Int) := Int.tdiv_one _
          clear hrm hrq hrf c12 c12'
          have HE9 : Hid (IB = _ ++ vb y 16) := HE.out.trans (by rw [ratI, if_neg (by decide), if_pos rfl, Int.toNat_natCast])
          have HU := Lib.hid (fun W => Unit_any 13 W)
          have e1 : unU 13 = 1 := rfl
          rw [e1] at HU
          clear e1
          have hwy : IntKind.i64.wrap (y : Int) = y := by rw [IntKind.wrap_i64]; omega
          have HQ : Hid (∀ W', Below w0.heap.size w0 W' → W'.cell? ⟨w.heap.size, 2, none⟩ = some (.int .i64 (13 : Nat)) ∧ W'.cell? ⟨w.heap.size, 7, none⟩ = some (.int .i64 (y : Int))) := fun W' hb => ⟨(HB.out.below hb).c 2 _ rfl, (HB.out.below hb).c 7 _ rfl⟩
          go_wp2_with fail
          refine wp_region_headN (fun W' => W'.cell? ⟨w.heap.size, 2, none⟩ = some (.int .i64 (13 : Nat)) ∧ W'.cell? ⟨w.heap.size, 7, none⟩ = some (.int .i64 (y : Int))) 7 5 (by kernel_rfl) rfl (by kernel_rfl) (HQ.out _ HS.out.blw.drew) ?_
          simp only [List.take_succ_cons, List.take_zero]
          refine' wpHead_op _ (by rfl) ?hv45 ?hrest45
          case hv45 => (intro w' hS'; (try dsimp only at hS'); go_simp; try with_reducible rfl)
          try simp only [Act.put, List.setIfInBounds_toArray, List.set_cons_zero, List.set_cons_succ]
          refine' wpHead_op _ (by rfl) ?hv46 ?hrest46
          case hv46 => (intro w' hS'; (try dsimp only at hS'); go_simp; try with_reducible rfl)
          try simp only [Act.put, List.setIfInBounds_toArray, List.set_cons_zero, List.set_cons_succ]
          refine' wpHead_op _ (by rfl) ?hv47 ?hrest47
          case hv47 => (intro w' hS'; (try dsimp only at hS'); go_simp; try with_reducible rfl)
          try simp only [Act.put, List.setIfInBounds_toArray, List.set_cons_zero, List.set_cons_succ]
          refine' wpHead_op _ (by rfl) ?hv48 ?hrest48
          case hv48 => (intro w' hS'; (try dsimp only at hS'); go_simp; try with_reducible rfl)
          try simp only [Act.put, List.setIfInBounds_toArray, List.set_cons_zero, List.set_cons_succ]
          refine' wpHead_op _ (by rfl) ?hv49 ?hrest49
          case hv49 => (intro w' hS'; (try dsimp only at hS'); go_simp; try with_reducible rfl)
          try simp only [Act.put, List.setIfInBounds_toArray, List.set_cons_zero, List.set_cons_succ]
          refine' wpHead_call (.int .i64 1) _ _ (by rfl) ?hv50 ?hc50 ?hrest50
          case hv50 => (intro w'; go_simp; first | done | (refine ⟨?_, ?_⟩ <;> with_reducible rfl) | with_reducible rfl)
          case hc50 => exact (fun W' _ => HU.out W')
          try simp only [Act.put, List.setIfInBounds_toArray, List.set_cons_zero, List.set_cons_succ]
          refine' wpHead_op _ (by rfl) ?hv51 ?hrest51
          case hv51 => (intro w' hS'; (try dsimp only at hS'); go_simp; try with_reducible rfl)
          try simp only [Act.put, List.setIfInBounds_toArray, List.set_cons_zero, List.set_cons_succ]
          refine wpHead_nil ?_
          obtain ⟨wd, hwd, hsd⟩ : ∃ wd, w9.drew = wd ∧ Sl w0 wd v9 _ _ := ⟨_, rfl, HS.out.below (Below.refl _ _).drew⟩
          rw [hwd]
          clear hwd f2 f7 HS
          refine wpAnyH_next (i := 7) (by kernel_rfl) rfl (by rfl) (fun K hK => ?_)
          go_simp
          refine (RPut_st hsd 16 y (by omega) (by decide) (by decide)).mono ?_
          rintro e wt ⟨vt, qt, rfl, H⟩
          have H9 := Lib.hid H
          clear hsd H
          refine hK.out _ _ (HQ.out _ H9.out.blw) ?_
          clear hK K
          try simp only [Act.put, List.setIfInBounds_toArray, List.set_cons_zero, List.set_cons_succ]
          refine wpAnyH_tail (k := 8) (by kernel_rfl) rfl (by kernel_rfl) (HQ.out _ H9.out.blw) ?_
          simp only [List.drop_succ_cons, List.drop_zero]
          refine' wpHead_op _ (by rfl) ?hv52 ?hrest52
          case hv52 => (intro w' hS'; (try dsimp only at hS'); go_simp; try with_reducible rfl)
          try simp only [Act.put, List.setIfInBounds_toArray, List.set_cons_zero, List.set_cons_succ]
          refine' wpHead_op _ (by rfl) ?hv53 ?hrest53
          case hv53 => (intro w' hS'; (try dsimp only at hS'); go_simp; try with_reducible rfl)
          try simp only [Act.put, List.setIfInBounds_toArray, List.set_cons_zero, List.set_cons_succ]
          refine' wpHead_op _ (by rfl) ?hv54 ?hrest54
          case hv54 => (intro w' hS'; (try dsimp only at hS'); go_simp; try with_reducible rfl)
          try simp only [Act.put, List.setIfInBounds_toArray, List.set_cons_zero, List.set_cons_succ]
          refine' wpHead_op _ (by rfl) ?hv55 ?hrest55
          case hv55 => (intro w' hS'; (try dsimp only at hS'); go_simp; try with_reducible rfl)
          try simp only [Act.put, List.setIfInBounds_toArray, List.set_cons_zero, List.set_cons_succ]
          refine wpHead_nil ?_
          refine wpAnyH_doneN (by kernel_rfl) ?_
          clear HQ
          have HRB : Hid (Calls Tryd.prog 41 #[vt] wt fun e w' => ∃ v, e = .returned v ∧ Hid (w'.ownsRow wt.heap.size 5 1 v (pkL IB).length (bv (pkL IB))) ∧ Below wt.heap.size wt w') := by
            have hbit : ∀ b ∈ IB, b < 2 := by rw [HE9.out]; exact vb_lt2 _ _ _ (Hpl.out)
            have hS9 := H9.out.own
            have hl9 := H9.out.len
            rw [← HE9.out] at hS9 hl9
            obtain ⟨A9, c9, h9, -, -, hr9, -⟩ := own_rd4 hS9
            rw [h9]
            exact RBytesL_any IB hbit A9 c9 wt hr9 (by omega)
          have hIBl : (pkL IB).length ≤ 1000 := by rw [HE9.out, pkL_length]; have := H9.out.len; omega
          have Hb9 := Lib.hid (bnext Hb0.out H9.out.blw)
          go_wp2_with fail
          refine HRB.out.mono ?_
          rintro e wb ⟨vv, rfl, Hown, hbb⟩
          obtain ⟨A9, c9, rfl, hc9, hr9⟩ := own_rd Hown.out
          have HF2 : Hid (F = pkL IB ++ [UInt8.ofNat (C2.crc8 0 (pkL IB))]) := HF.out
          have hbbz := hbb.size
          have Hbb := Lib.hid (bnext Hb9.out hbb)
          have Hle := Lib.hid Hb9.out.size
          clear HF HI H9 HE9 HRB Hb9
          generalize pkL IB = S9 at *
          have HS8 := Lib.hid (C2.refSum8_any S9 A9 c9 wb hr9 (by omega))
          have Hown2 := Lib.hid Hown.out
          rw [← C2.tells8] at HS8
          clear hr9 Hown hbb hc9
          have hlt : C2.crc8 0 S9 < 256 := C2.crc8_lt 0 (by decide) S9
          have Hbl : Hid (bv S9 ++ [.int .u8 (C2.crc8 0 S9 : Nat)] = bv F) := by
            show _ = _
            rw [HF2.out, bv_append]
            simp only [bv, List.map_cons, List.map_nil, UInt8.toNat_ofNat']
            rw [Nat.mod_eq_of_lt (show C2.crc8 0 S9 < 2 ^ 8 from hlt)]
          have Hll : Hid (F.length = S9.length + 1) := by show _ = _; rw [HF2.out]; simp
          generalize C2.crc8 0 S9 = s9 at *
          go_wp2_with fail
          refine HS8.out.mono ?_
          rintro e ws ⟨rfl, hbs⟩
          have Hown3 := Lib.hid (ownsRow_below Hown2.out hbs)
          have Hb3 := Lib.hid (bnext Hbb.out hbs)
          have hsz3 := hbs.size
          clear HS8 Hown2 Hbb hbs
          have hws : w.heap.size ≤ ws.heap.size := by have := Hle.out; omega
          have hu8 : IntKind.u8.wrap (s9 : Int) = s9 := by rw [IntKind.wrap_u8]; omega
          go_wp2_with (at_builtin; refine app1 (w0 := w) rfl _ _ 28 rfl Tryd.underlying28 C3.info_u8 rfl (by decide) rfl (ownsRow_less Hown3.out Hle.out) (Nat.le_refl _) hws Hb3.out rfl rfl (C3.one_u8 _) (by omega) (by unfold maxLen; omega) ?_; intro v1 wf own1 hbf hsf; have Hown9 := Lib.hid own1; clear own1)
          go_ret
          refine ⟨_, rfl, ?_, hbf⟩
          have h9 := Hown9.out
          rw [show bv S9 ++ (#[Value.int .u8 (s9 : Int)]).toList = bv F from Hbl.out, ← Hll.out] at h9
          exact h9
        by_cases c14 : rc = 14
        · subst c14
          obtain ⟨hr0, hrm, hrq⟩ := of_decide_eq_true (show decide (0 ≤ r ∧ r % 10 = 0 ∧ r / 10 < 65536) = true from hrf)
          obtain ⟨y, hy⟩ : ∃ y : Nat, r / 10 = y := ⟨(r / 10).toNat, by omega⟩
          have hq2 : r.tdiv 10 = (y : Int) := by rw [Int.tdiv_eq_ediv_of_nonneg hr0]; exact hy
          have hy8 : y < 65536 := by omega
          clear hrm hrq hrf c12 c12' c13
          have HE9 : Hid (IB = _ ++ vb y 16) := HE.out.trans (by rw [ratI, if_neg (by decide), if_neg (by decide), if_pos rfl, hy, Int.toNat_natCast])
          have HU := Lib.hid (fun W => Unit_any 14 W)
          have e1 : unU 14 = 10 := rfl
          rw [e1] at HU
          clear e1
          have hwy : IntKind.i64.wrap (y : Int) = y := by rw [IntKind.wrap_i64]; omega
          have HQ : Hid (∀ W', Below w0.heap.size w0 W' → W'.cell? ⟨w.heap.size, 2, none⟩ = some (.int .i64 (14 : Nat)) ∧ W'.cell? ⟨w.heap.size, 7, none⟩ = some (.int .i64 r)) := fun W' hb => ⟨(HB.out.below hb).c 2 _ rfl, (HB.out.below hb).c 7 _ rfl⟩
          go_wp2_with fail
          refine wp_region_headN (fun W' => W'.cell? ⟨w.heap.size, 2, none⟩ = some (.int .i64 (14 : Nat)) ∧ W'.cell? ⟨w.heap.size, 7, none⟩ = some (.int .i64 r)) 7 5 (by kernel_rfl) rfl (by kernel_rfl) (HQ.out _ HS.out.blw.drew) ?_
          simp only [List.take_succ_cons, List.take_zero]
          refine' wpHead_op _ (by rfl) ?hv56 ?hrest56
          case hv56 => (intro w' hS'; (try dsimp only at hS'); go_simp; try with_reducible rfl)
          try simp only [Act.put, List.setIfInBounds_toArray, List.set_cons_zero, List.set_cons_succ]
          refine' wpHead_op _ (by rfl) ?hv57 ?hrest57
          case hv57 => (intro w' hS'; (try dsimp only at hS'); go_simp; try with_reducible rfl)
          try simp only [Act.put, List.setIfInBounds_toArray, List.set_cons_zero, List.set_cons_succ]
          refine' wpHead_op _ (by rfl) ?hv58 ?hrest58
          case hv58 => (intro w' hS'; (try dsimp only at hS'); go_simp; try with_reducible rfl)
          try simp only [Act.put, List.setIfInBounds_toArray, List.set_cons_zero, List.set_cons_succ]
          refine' wpHead_op _ (by rfl) ?hv59 ?hrest59
          case hv59 => (intro w' hS'; (try dsimp only at hS'); go_simp; try with_reducible rfl)
          try simp only [Act.put, List.setIfInBounds_toArray, List.set_cons_zero, List.set_cons_succ]
          refine' wpHead_op _ (by rfl) ?hv60 ?hrest60
          case hv60 => (intro w' hS'; (try dsimp only at hS'); go_simp; try with_reducible rfl)
          try simp only [Act.put, List.setIfInBounds_toArray, List.set_cons_zero, List.set_cons_succ]
          refine' wpHead_call (.int .i64 10) _ _ (by rfl) ?hv61 ?hc61 ?hrest61
          case hv61 => (intro w'; go_simp; first | done | (refine ⟨?_, ?_⟩ <;> with_reducible rfl) | with_reducible rfl)
          case hc61 => exact (fun W' _ => HU.out W')
          try simp only [Act.put, List.setIfInBounds_toArray, List.set_cons_zero, List.set_cons_succ]
          refine' wpHead_op _ (by rfl) ?hv62 ?hrest62
          case hv62 => (intro w' hS'; (try dsimp only at hS'); go_simp; try with_reducible rfl)
          try simp only [Act.put, List.setIfInBounds_toArray, List.set_cons_zero, List.set_cons_succ]
          refine wpHead_nil ?_
          obtain ⟨wd, hwd, hsd⟩ : ∃ wd, w9.drew = wd ∧ Sl w0 wd v9 _ _ := ⟨_, rfl, HS.out.below (Below.refl _ _).drew⟩
          rw [hwd]
          clear hwd f2 f7 HS
          refine wpAnyH_next (i := 7) (by kernel_rfl) rfl (by rfl) (fun K hK => ?_)
          go_simp
          refine (RPut_st hsd 16 y (by omega) (by decide) (by decide)).mono ?_
          rintro e wt ⟨vt, qt, rfl, H⟩
          have H9 := Lib.hid H
          clear hsd H
          refine hK.out _ _ (HQ.out _ H9.out.blw) ?_
          clear hK K
          try simp only [Act.put, List.setIfInBounds_toArray, List.set_cons_zero, List.set_cons_succ]
          refine wpAnyH_tail (k := 8) (by kernel_rfl) rfl (by kernel_rfl) (HQ.out _ H9.out.blw) ?_
          simp only [List.drop_succ_cons, List.drop_zero]
          refine' wpHead_op _ (by rfl) ?hv63 ?hrest63
          case hv63 => (intro w' hS'; (try dsimp only at hS'); go_simp; try with_reducible rfl)
          try simp only [Act.put, List.setIfInBounds_toArray, List.set_cons_zero, List.set_cons_succ]
          refine' wpHead_op _ (by rfl) ?hv64 ?hrest64
          case hv64 => (intro w' hS'; (try dsimp only at hS'); go_simp; try with_reducible rfl)
          try simp only [Act.put, List.setIfInBounds_toArray, List.set_cons_zero, List.set_cons_succ]
          refine' wpHead_op _ (by rfl) ?hv65 ?hrest65
          case hv65 => (intro w' hS'; (try dsimp only at hS'); go_simp; try with_reducible rfl)
          try simp only [Act.put, List.setIfInBounds_toArray, List.set_cons_zero, List.set_cons_succ]
          refine' wpHead_op _ (by rfl) ?hv66 ?hrest66
          case hv66 => (intro w' hS'; (try dsimp only at hS'); go_simp; try with_reducible rfl)
          try simp only [Act.put, List.setIfInBounds_toArray, List.set_cons_zero, List.set_cons_succ]
          refine wpHead_nil ?_
          refine wpAnyH_doneN (by kernel_rfl) ?_
          clear HQ
          have HRB : Hid (Calls Tryd.prog 41 #[vt] wt fun e w' => ∃ v, e = .returned v ∧ Hid (w'.ownsRow wt.heap.size 5 1 v (pkL IB).length (bv (pkL IB))) ∧ Below wt.heap.size wt w') := by
            have hbit : ∀ b ∈ IB, b < 2 := by rw [HE9.out]; exact vb_lt2 _ _ _ (Hpl.out)
            have hS9 := H9.out.own
            have hl9 := H9.out.len
            rw [← HE9.out] at hS9 hl9
            obtain ⟨A9, c9, h9, -, -, hr9, -⟩ := own_rd4 hS9
            rw [h9]
            exact RBytesL_any IB hbit A9 c9 wt hr9 (by omega)
          have hIBl : (pkL IB).length ≤ 1000 := by rw [HE9.out, pkL_length]; have := H9.out.len; omega
          have Hb9 := Lib.hid (bnext Hb0.out H9.out.blw)
          go_wp2_with fail
          refine HRB.out.mono ?_
          rintro e wb ⟨vv, rfl, Hown, hbb⟩
          obtain ⟨A9, c9, rfl, hc9, hr9⟩ := own_rd Hown.out
          have HF2 : Hid (F = pkL IB ++ [UInt8.ofNat (C2.crc8 0 (pkL IB))]) := HF.out
          have hbbz := hbb.size
          have Hbb := Lib.hid (bnext Hb9.out hbb)
          have Hle := Lib.hid Hb9.out.size
          clear HF HI H9 HE9 HRB Hb9
          generalize pkL IB = S9 at *
          have HS8 := Lib.hid (C2.refSum8_any S9 A9 c9 wb hr9 (by omega))
          have Hown2 := Lib.hid Hown.out
          rw [← C2.tells8] at HS8
          clear hr9 Hown hbb hc9
          have hlt : C2.crc8 0 S9 < 256 := C2.crc8_lt 0 (by decide) S9
          have Hbl : Hid (bv S9 ++ [.int .u8 (C2.crc8 0 S9 : Nat)] = bv F) := by
            show _ = _
            rw [HF2.out, bv_append]
            simp only [bv, List.map_cons, List.map_nil, UInt8.toNat_ofNat']
            rw [Nat.mod_eq_of_lt (show C2.crc8 0 S9 < 2 ^ 8 from hlt)]
          have Hll : Hid (F.length = S9.length + 1) := by show _ = _; rw [HF2.out]; simp
          generalize C2.crc8 0 S9 = s9 at *
          go_wp2_with fail
          refine HS8.out.mono ?_
          rintro e ws ⟨rfl, hbs⟩
          have Hown3 := Lib.hid (ownsRow_below Hown2.out hbs)
          have Hb3 := Lib.hid (bnext Hbb.out hbs)
          have hsz3 := hbs.size
          clear HS8 Hown2 Hbb hbs
          have hws : w.heap.size ≤ ws.heap.size := by have := Hle.out; omega
          have hu8 : IntKind.u8.wrap (s9 : Int) = s9 := by rw [IntKind.wrap_u8]; omega
          go_wp2_with (at_builtin; refine app1 (w0 := w) rfl _ _ 28 rfl Tryd.underlying28 C3.info_u8 rfl (by decide) rfl (ownsRow_less Hown3.out Hle.out) (Nat.le_refl _) hws Hb3.out rfl rfl (C3.one_u8 _) (by omega) (by unfold maxLen; omega) ?_; intro v1 wf own1 hbf hsf; have Hown9 := Lib.hid own1; clear own1)
          go_ret
          refine ⟨_, rfl, ?_, hbf⟩
          have h9 := Hown9.out
          rw [show bv S9 ++ (#[Value.int .u8 (s9 : Int)]).toList = bv F from Hbl.out, ← Hll.out] at h9
          exact h9
        have hlow : ¬ ((rc : Int) > 12) := by omega
        have HE9 : Hid (IB = _) := HE.out.trans (by rw [ratI, if_neg c12, if_neg c13, if_neg c14, List.append_nil])
        clear c12 c13 c14 hrf
        have HRB : Hid (Calls Tryd.prog 41 #[v9] w9 fun e w' => ∃ v, e = .returned v ∧ Hid (w'.ownsRow w9.heap.size 5 1 v (pkL IB).length (bv (pkL IB))) ∧ Below w9.heap.size w9 w') := by
          have hbit : ∀ b ∈ IB, b < 2 := by rw [HE9.out]; exact Hpl.out
          have hS9 := HS.out.own
          have hl9 := HS.out.len
          rw [← HE9.out] at hS9 hl9
          obtain ⟨A9, c9, h9, -, -, hr9, -⟩ := own_rd4 hS9
          rw [h9]
          exact RBytesL_any IB hbit A9 c9 w9 hr9 (by omega)
        have hIBl : (pkL IB).length ≤ 1000 := by rw [HE9.out, pkL_length]; have := HS.out.len; omega
        have Hb9 := Lib.hid (bnext Hb0.out HS.out.blw)
        go_wp2_with fail
        refine HRB.out.mono ?_
        rintro e wb ⟨vv, rfl, Hown, hbb⟩
        obtain ⟨A9, c9, rfl, hc9, hr9⟩ := own_rd Hown.out
        have HF2 : Hid (F = pkL IB ++ [UInt8.ofNat (C2.crc8 0 (pkL IB))]) := HF.out
        have hbbz := hbb.size
        have Hbb := Lib.hid (bnext Hb9.out hbb)
        have Hle := Lib.hid Hb9.out.size
        clear HF HI HS HE9 HRB Hb9
        generalize pkL IB = S9 at *
        have HS8 := Lib.hid (C2.refSum8_any S9 A9 c9 wb hr9 (by omega))
        have Hown2 := Lib.hid Hown.out
        rw [← C2.tells8] at HS8
        clear hr9 Hown hbb hc9
        have hlt : C2.crc8 0 S9 < 256 := C2.crc8_lt 0 (by decide) S9
        have Hbl : Hid (bv S9 ++ [.int .u8 (C2.crc8 0 S9 : Nat)] = bv F) := by
          show _ = _
          rw [HF2.out, bv_append]
          simp only [bv, List.map_cons, List.map_nil, UInt8.toNat_ofNat']
          rw [Nat.mod_eq_of_lt (show C2.crc8 0 S9 < 2 ^ 8 from hlt)]
        have Hll : Hid (F.length = S9.length + 1) := by show _ = _; rw [HF2.out]; simp
        generalize C2.crc8 0 S9 = s9 at *
        go_wp2_with fail
        refine HS8.out.mono ?_
        rintro e ws ⟨rfl, hbs⟩
        have Hown3 := Lib.hid (ownsRow_below Hown2.out hbs)
        have Hb3 := Lib.hid (bnext Hbb.out hbs)
        have hsz3 := hbs.size
        clear HS8 Hown2 Hbb hbs
        have hws : w.heap.size ≤ ws.heap.size := by have := Hle.out; omega
        have hu8 : IntKind.u8.wrap (s9 : Int) = s9 := by rw [IntKind.wrap_u8]; omega
        go_wp2_with (at_builtin; refine app1 (w0 := w) rfl _ _ 28 rfl Tryd.underlying28 C3.info_u8 rfl (by decide) rfl (ownsRow_less Hown3.out Hle.out) (Nat.le_refl _) hws Hb3.out rfl rfl (C3.one_u8 _) (by omega) (by unfold maxLen; omega) ?_; intro v1 wf own1 hbf hsf; have Hown9 := Lib.hid own1; clear own1)
        go_ret
        refine ⟨_, rfl, ?_, hbf⟩
        have h9 := Hown9.out
        rw [show bv S9 ++ (#[Value.int .u8 (s9 : Int)]).toList = bv F from Hbl.out, ← Hll.out] at h9
        exact h9
end Go.Proofs.YtgohfbfdhdepnaaDoor
