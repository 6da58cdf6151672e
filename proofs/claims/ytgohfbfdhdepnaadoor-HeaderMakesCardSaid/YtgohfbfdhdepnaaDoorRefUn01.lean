/-
  jetsamref01: Unary and Bytes; Writer.Append.
-/
import Derived.Test.YtgohfbfdhdepnaaDoorRefPut01
namespace Go.Proofs.YtgohfbfdhdepnaaDoor
open Go.RowKit

theorem zb_snoc (j : Nat) : zb (j + 1) = zb j ++ [0] := by rw [← zb_add]; rfl
set_option maxRecDepth 100000 in
set_option maxHeartbeats 2000000 in
theorem RBytesL_any (bs : List Nat) (hb : ∀ b ∈ bs, b < 2) (A : Option Addr) (c : Nat) (w : World) (hr : Rd w A (iv8 bs)) (hl : bs.length ≤ 4000000) :
    Calls Tryd.prog 41 #[.slice A bs.length c] w fun e w' => ∃ v, e = .returned v ∧ Hid (w'.ownsRow w.heap.size 5 1 v (pkL bs).length (bv (pkL bs))) ∧ Below w.heap.size w w' := by
  have Hr := Lib.hid hr
  have Hfin : Hid (bv (pkL bs) = pkN bs ((bs.length + 7) / 8)) := bv_pkL bs hb
  have Hpl := Lib.hid (pkL_length bs)
  have HgL := Lib.hid (getD_lt hb)
  have Hsg := Lib.hid (fun t n => sg_lt (getD_lt hb) t n)
  have Hout := Lib.hid (getD_out bs)
  have Hsn : Hid (∀ d, pkN bs (d + 1) = pkN bs d ++ [.int .u8 (sg (fun t => bs.getD t 0) (8 * d) 8 : Nat)]) := by
    intro d
    simp [pkN, List.range_succ, byteAt]
  have HG := Lib.hid (fun W (h : Rd W A (iv8 bs)) j (hj : j < bs.length) => h j _ (iv8_get bs j hj))
  clear hr hb
  go_enter Tryd.func41, Tryd.ntmps41
  go_wp2_with fail
  go_loopw [3, 4] (fun ov iv wr => ∃ d : Nat, 8 * d < bs.length + 8 ∧ iv = .int .i64 ((8 * d : Nat) : Int) ∧ Hid (wr.ownsRow w.heap.size 5 1 ov d (pkN bs d)) ∧ Hid (Below w.heap.size w wr)) (fun _ iv _ => (bs.length + 8 - intOf iv).toNat)
  case atStart => exact ⟨0, by omega, rfl, World.ownsRow_nil w w.heap.size _ 1, Below.refl _ _⟩
  case round =>
    obtain ⟨d, hd, rfl, Ho, Hb⟩ := hrel
    by_cases hdl : 8 * d < bs.length
    · have hdl2 : ((8 * d : Nat) : Int) < bs.length := by omega
      obtain ⟨D, hD⟩ : ∃ D, 8 * d = D := ⟨_, rfl⟩
      have HD := Lib.hid hD
      have Hsd := Lib.hid (Hsn.out d)
      have hsg8 := Hsg.out D 8
      rw [hD] at Hsd hdl2 hd hdl ⊢
      clear hD
      go_wp2_with fail
      go_loop [5, 6] (fun nv kv => ∃ k : Nat, k ≤ 8 ∧ kv = .int .i64 (k : Int) ∧ nv = .int .i64 (sg (fun t => bs.getD t 0) D k : Nat)) (fun _ kv => (8 - intOf kv).toNat)
      case atStart => exact ⟨0, by omega, rfl, rfl⟩
      case round =>
        obtain ⟨k, hk, rfl, rfl⟩ := hrel
        by_cases hk8 : k < 8
        · have Hst : Hid (sg (fun t => bs.getD t 0) D (k + 1) = 2 * sg (fun t => bs.getD t 0) D k + bs.getD (D + k) 0) := rfl
          have hlt := Hsg.out D k
          have hlt8 : (2 : Nat) ^ k ≤ 2 ^ 8 := Nat.pow_le_pow_right (by omega) hk
          have hS : sg (fun t => bs.getD t 0) D k < 256 := Nat.lt_of_lt_of_le hlt hlt8
          clear hlt hlt8
          generalize sg (fun t => bs.getD t 0) D k = S at *
          by_cases hin : D + k < bs.length
          · obtain ⟨b, o, rfl, hc⟩ := HG.out wr (Hr.out.below Hb.out) (D + k) hin
            have hx := HgL.out (D + k)
            have hin2 : (D : Int) + k < bs.length := by omega
            generalize bs.getD (D + k) 0 = x at *
            have e1 : ((D : Int) + k).toNat = D + k := by omega
            go_wp2_with fail
            go_round
            case rel => exact ⟨k + 1, by omega, by go_num, by rw [Hst.out]; go_num⟩
            case measure => simp [intOf] <;> omega
          · have hx : bs.getD (D + k) 0 = 0 := Hout.out _ (by omega)
            rw [hx] at Hst
            have hin2 : ¬ (D : Int) + k < bs.length := by omega
            clear hx hin
            go_wp2_with fail
            go_round
            case rel => exact ⟨k + 1, by omega, by go_num, by rw [Hst.out]; go_num⟩
            case measure => simp [intOf] <;> omega
        · obtain rfl : k = 8 := by omega
          generalize sg (fun t => bs.getD t 0) D 8 = S at *
          have hw8 : IntKind.u8.wrap (S : Int) = S := wrap_u8_nat S (by omega)
          have hbs := Hb.out.size
          have hdm : d ≤ 4000000 := by have := HD.out; omega
          go_wp2_with (at_builtin; refine app1 (w0 := w) (n := d) (bytes := 1) rfl _ _ 28 rfl Tryd.underlying28 info_u8 rfl (by decide) rfl Ho.out (Nat.le_refl _) hbs Hb.out rfl rfl (one_u8 _) (by omega) (by unfold maxLen; omega) ?_; intro v1 w6 own1 hb6 hs6; have Hown1 := Lib.hid own1; have Hb6 := Lib.hid hb6; clear own1 hb6)
          go_roundw
          case rel => exact ⟨d + 1, by have := HD.out; omega, by have := HD.out; first | (congr 1; omega) | (simp; omega), by rw [Hsd.out]; exact Hown1.out, Hb6.out⟩
          case measure => simp [intOf] <;> omega
    · have hdd : d = (bs.length + 7) / 8 := by omega
      have hdl2 : ¬ ((8 * d : Nat) : Int) < bs.length := by omega
      have Hdd := Lib.hid hdd
      clear hdd
      go_wp2_with fail
      go_ret
      refine ⟨_, rfl, ?_, Hb.out⟩
      rw [Hpl.out, Hfin.out, ← Hdd.out]
      exact Ho.out

/-- The bits of bytes, one by one. -/
def by8 (l : List UInt8) : List Nat := l.flatMap fun x => vb x.toNat 8
theorem by8_length (l : List UInt8) : (by8 l).length = 8 * l.length := by
  induction l with
  | nil => rfl
  | cons x l ih => unfold by8 at *; rw [List.flatMap_cons, List.length_append, ih, vb_length, List.length_cons]; omega
theorem by8_append (l m : List UInt8) : by8 (l ++ m) = by8 l ++ by8 m := by simp [by8]
theorem by8_snoc (l : List UInt8) (j : Nat) (h : j < l.length) : by8 (l.take (j + 1)) = by8 (l.take j) ++ vb (l[j]).toNat 8 := by
  rw [List.take_succ_eq_append_getElem h, by8_append]; simp [by8]
theorem put8 (bs : List Nat) (x : Nat) (h : x < 256) : ptE 8 x = 0 ∧ ptB bs 8 x = bs ++ vb x 8 := by
  have e : ptE 8 x = 0 := by
    rw [ptE, if_neg (by omega), if_neg]
    show ¬ ((x : Int) < 0 ∨ (2 : Int) ^ 8 ≤ x)
    omega
  exact ⟨e, by rw [ptB, if_pos e, Int.toNat_natCast]; rfl⟩
set_option maxRecDepth 100000 in
set_option maxHeartbeats 2000000 in
theorem AppendW_any (R : Nat) (bs : List Nat) (u : Value) (ls : List (List UInt8)) (vs : List Value) (A : Option Addr) (c : Nat) (w : World) (hW : Wtr w R bs u) (hvl : vs.length = ls.length)
    (hv : ∀ W, Fr (WS R u) w W → Rd W A vs ∧ ∀ (j : Nat) (x : Value) (y : List UInt8), vs[j]? = some x → ls[j]? = some y → BS W x y) (hlen : bs.length + 8 * ls.flatten.length ≤ 100000000000) (hll : ls.length ≤ 1000000000000) :
    Calls Tryd.prog 28 #[.pointer (some ⟨R, 0, none⟩), .slice A ls.length c] w fun e w' => e = .returned (.tuple #[]) ∧ ∃ u', Wtr w' R (bs ++ by8 ls.flatten) u' ∧ FrW R u u' w w' := by
  have HW := Lib.hid hW
  have HV := Lib.hid hv
  have Hvl := Lib.hid hvl
  have Hlen := Lib.hid hlen
  clear hW hv hvl hlen
  go_enter Tryd.func28, Tryd.ntmps28
  go_wp2_with fail
  go_loopw [10] (fun iv wr => ∃ (i : Nat) (u' : Value), i ≤ ls.length ∧ iv = .int .i64 (i : Int) ∧ Hid (Wtr wr R (bs ++ by8 (ls.take i).flatten) u') ∧ Hid (FrW R u u' w wr)) (fun iv _ => (ls.length - intOf iv).toNat)
  case atStart => exact ⟨0, u, by omega, rfl, by show Wtr _ _ _ _; simpa [by8] using HW.out, FrW.refl _ _ _⟩
  case round =>
    clear HW
    obtain ⟨i, u1, hi, rfl, HW1, HF1⟩ := hrel
    by_cases hil : i < ls.length
    · have hil2 : (i : Int) < ls.length := by omega
      have hiv : i < vs.length := by have := Hvl.out; omega
      obtain ⟨hA, hB⟩ := HV.out wr HF1.out.fr
      obtain ⟨b, o, rfl, hc⟩ := hA.at_ hiv
      obtain ⟨A1, c1, e1, hc1, -⟩ := hB i vs[i] ls[i] (List.getElem?_eq_getElem hiv) (List.getElem?_eq_getElem hil)
      have HV2 : Hid (∀ W, Fr (WS R u) w W → Rd W A1 (bv ls[i])) := by
        intro W hW
        obtain ⟨A2, c2, e2, -, hr2⟩ := (HV.out W hW).2 i vs[i] ls[i] (List.getElem?_eq_getElem hiv) (List.getElem?_eq_getElem hil)
        rw [e1] at e2
        injection e2 with e3 e4 e5
        rw [e3]; exact hr2
      rw [e1] at hc
      have Hti : Hid (bs ++ by8 (ls.take (i + 1)).flatten = bs ++ by8 (ls.take i).flatten ++ by8 ls[i]) := by
        show _ = _
        rw [List.take_succ_eq_append_getElem hil, List.flatten_append, by8_append]; simp
      have Hlm : Hid ((bs ++ by8 (ls.take i).flatten).length + 8 * ls[i].length ≤ 100000000000) := by
        show _ ≤ _
        have h1 : ls.flatten = (ls.take i).flatten ++ (ls[i] ++ (ls.drop (i + 1)).flatten) := by
          have : ls = ls.take i ++ (ls[i] :: ls.drop (i + 1)) := by rw [← List.drop_eq_getElem_cons hil, List.take_append_drop]
          have h2 := congrArg List.flatten this
          rw [h2, List.flatten_append, List.flatten_cons]
        have h3 := congrArg List.length h1
        have h4 := Hlen.out
        rw [List.length_append, by8_length]
        rw [List.length_append, List.length_append] at h3
        omega
      clear hA hB e1
      generalize ls[i] = lb at *
      have Hlb : Hid (lb.length ≤ 100000000000) := by show _ ≤ _; have := Hlm.out; omega
      have hlb := Hlb.out
      generalize bs ++ by8 (ls.take i).flatten = b1 at *
      go_wp2_with fail
      go_loopw [16] (fun kv wr => ∃ (k : Nat) (u' : Value), k ≤ lb.length ∧ kv = .int .i64 (k : Int) ∧ Hid (Wtr wr R (b1 ++ by8 (lb.take k)) u') ∧ Hid (FrW R u u' w wr)) (fun kv _ => (lb.length - intOf kv).toNat)
      case atStart => exact ⟨0, u1, by omega, rfl, by show Wtr _ _ _ _; simpa [by8] using HW1.out, HF1.out⟩
      case round =>
        clear HW1 HF1
        obtain ⟨k, u2, hk, rfl, HW2, HF2⟩ := hrel
        by_cases hkl : k < lb.length
        · have hkl2 : (k : Int) < lb.length := by omega
          obtain ⟨b2, o2, rfl, hc2⟩ := (HV2.out wr HF2.out.fr).at_ (j := k) (by rw [bv_length]; exact hkl)
          have e2 := bv_get lb k hkl
          rw [List.getElem?_eq_getElem (by rw [bv_length]; exact hkl)] at e2
          rw [Option.some.inj e2] at hc2
          clear e2
          have Hst : Hid (b1 ++ by8 (lb.take (k + 1)) = b1 ++ by8 (lb.take k) ++ vb (lb[k]).toNat 8) := by show _ = _; rw [by8_snoc lb k hkl, List.append_assoc]
          have hx := lb[k].toNat_lt
          have Hle : Hid ((b1 ++ by8 (lb.take k)).length + 48 ≤ 1000000000000) := by
            show _ ≤ _
            rw [List.length_append, by8_length, List.length_take]
            have := Hlm.out
            omega
          generalize lb[k].toNat = x at *
          generalize b1 ++ by8 (lb.take k) = bk at *
          have HP := Lib.hid (Put_any R bk u2 8 x wr HW2.out Hle.out)
          rw [(put8 bk x hx).1, (put8 bk x hx).2] at HP
          go_wp2_with fail
          refine HP.out.mono ?_
          rintro e w3 ⟨rfl, u3, hW3, f3⟩
          have HW3 := Lib.hid hW3
          have HF3 := Lib.hid (HF2.out.trans f3)
          clear hW3 f3 HP
          go_wp2_with fail
          go_roundw
          case rel => exact ⟨k + 1, u3, by omega, by go_num, by rw [Hst.out]; exact HW3.out, HF3.out⟩
          case measure => simp [intOf] <;> omega
        · obtain rfl : k = lb.length := by omega
          rw [List.take_length] at HW2
          go_wp2_with fail
          go_roundw
          case rel => exact ⟨i + 1, u2, by omega, by go_num, by rw [Hti.out]; exact HW2.out, HF2.out⟩
          case measure => simp [intOf] <;> omega
    · obtain rfl : i = ls.length := by omega
      rw [List.take_length] at HW1
      go_wp2_with fail
      exact bodyPost_end (v := .tuple #[]) (by simp [results, Tryd.results28, go_sem]) rfl ⟨rfl, u1, HW1.out, HF1.out⟩
end Go.Proofs.YtgohfbfdhdepnaaDoor
