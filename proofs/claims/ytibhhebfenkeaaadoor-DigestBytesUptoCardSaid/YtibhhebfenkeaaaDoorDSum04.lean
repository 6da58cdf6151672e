/-
  Digest.Sum: its walk.
-/
import Derived.Test.YtibhhebfenkeaaaDoorDSum04a
import Derived.Test.YtibhhebfenkeaaaDoorMono
set_option pp.deepTerms true
set_option pp.maxSteps 100000
namespace Go.Proofs.YtibhhebfenkeaaaDoor
open Go.RowKit

theorem Tl.less {w : World} {b b' : Nat} {v : Value} {xs : List Value} (h : Tl w b v xs) (hb : b' ≤ b) : Tl w b' v xs := by
  rcases h with h | ⟨g, o, cap, cur, e, h1, r⟩
  · exact .inl h
  · exact .inr ⟨g, o, cap, cur, e, Nat.le_trans hb h1, r⟩
theorem Tl.below {w w' : World} {b : Nat} {v : Value} {xs : List Value} (h : Tl w b v xs) (hb : Below w.heap.size w w') : Tl w' b v xs := h.fr (S := fun _ => False) (Fr.of hb) (fun _ _ => id)
theorem Dg.cells {w : World} {B R k z : Nat} {l : List UInt8} {u : Value} (h : Dg w B R k l z u) : w.cell? ⟨R, 0, none⟩ = some (.int .u32 ((HH l k).a : Nat)) ∧ w.cell? ⟨R, 1, none⟩ = some (.int .u32 ((HH l k).b : Nat)) ∧ w.cell? ⟨R, 2, none⟩ = some (.int .u32 ((HH l k).c : Nat)) ∧ w.cell? ⟨R, 3, none⟩ = some (.int .u32 ((HH l k).d : Nat)) ∧ w.cell? ⟨R, 4, none⟩ = some u := by
  refine ⟨?_, ?_, ?_, ?_, ?_⟩ <;> rw [cell_of_row _ _ _ _ _ _ h.row] <;> simp [stC]
def TlP (b : Nat) (D : List UInt8) : Spec := .rel (fun v w => ∃ A c, v = .slice A D.length c ∧ Tl w b (.slice A D.length c) (bv D)) (fun _ _ _ ⟨A, c, e, h⟩ hb => ⟨A, c, e, h.below hb⟩)
def AgP (b : Nat) (s : S4) (D : List UInt8) : Spec := .rel (fun v w => ∃ A c, v = .agg #[.int .u32 (s.a : Nat), .int .u32 (s.b : Nat), .int .u32 (s.c : Nat), .int .u32 (s.d : Nat), .slice A D.length c, .int .i64 0] ∧ Tl w b (.slice A D.length c) (bv D)) (fun _ _ _ ⟨A, c, e, h⟩ hb => ⟨A, c, e, h.below hb⟩)
def EnP (b k : Nat) (l : List UInt8) : Spec := .rel (fun v w => ∃ g A c, v = .pointer (some ⟨g, 0, none⟩) ∧ Dg w b g k l 0 (.slice A (l.drop (64 * k)).length c)) (fun _ _ _ ⟨g, A, c, e, h⟩ hb => ⟨g, A, c, e, h.below hb⟩)
theorem enP_new {w : World} {b k : Nat} {l D : List UInt8} {A : Option Addr} {c : Nat} (hD : l.drop (64 * k) = D) (hle : 64 * k ≤ l.length) (hb : b ≤ w.heap.size) (h : Tl w b (.slice A D.length c) (bv D)) :
    Dg (w.alloc (.cells #[.int .u32 ((HH l k).a : Nat), .int .u32 ((HH l k).b : Nat), .int .u32 ((HH l k).c : Nat), .int .u32 ((HH l k).d : Nat), .slice A D.length c, .int .i64 0] 55)) b w.heap.size k l 0 (.slice A (l.drop (64 * k)).length c) := by
  subst hD
  exact ⟨heap_alloc_last w _, h.below (bal (Below.refl _ _) _), hle, (fun e => by have := (h.lt _ e).2; omega), hb⟩
theorem u64_wrap2 (p : Nat) (h : p < 9223372036854775808) : IntKind.u64.wrap (p : Int) = p := by
  simp only [IntKind.wrap, IntKind.bits, IntKind.signed]
  simp
  omega
theorem pad_at (n j : Nat) (h : j ≤ padZ n) : (n + 1 + j) % 64 ≠ 56 ↔ j < padZ n := by unfold padZ at *; omega
theorem lenB_take (n i : Nat) (h : i < 8) : (lenB n).take (i + 1) = (lenB n).take i ++ [UInt8.ofNat (8 * n / 2 ^ (8 * i))] := by
  rw [List.take_succ_eq_append_getElem (by rw [lenB_length]; exact h)]
  congr 2
  simp [lenB]

set_option maxRecDepth 100000 in
set_option maxHeartbeats 8000000 in
theorem DSum_any (B R : Nat) (l : List UInt8) (u : Value) (w : World) (hD : Dg w B R (l.length / 64) l l.length u) (hlen : l.length ≤ 90000) (ht : Tabs w) :
    Calls Tryd.prog 16 #[.pointer (some ⟨R, 0, none⟩)] w fun e w' => e = .returned (.agg (osR (mdS l) 16)) ∧ Below w.heap.size w w' := by
  have HT := Lib.hid ht
  have HO : Hid ((w.alloc (.cells #[.int .u8 0, .int .u8 0, .int .u8 0, .int .u8 0, .int .u8 0, .int .u8 0, .int .u8 0, .int .u8 0, .int .u8 0, .int .u8 0, .int .u8 0, .int .u8 0, .int .u8 0, .int .u8 0, .int .u8 0, .int .u8 0] 24)).heap[w.heap.size]? = some (.cells (osR (mdS l) 0) 24 (0, 0))) := heap_alloc_last w _
  have HD3 : Hid (Dg (w.alloc (.cells #[.int .u8 0, .int .u8 0, .int .u8 0, .int .u8 0, .int .u8 0, .int .u8 0, .int .u8 0, .int .u8 0, .int .u8 0, .int .u8 0, .int .u8 0, .int .u8 0, .int .u8 0, .int .u8 0, .int .u8 0, .int .u8 0] 24)) B R (l.length / 64) l l.length u) := hD.below (bal (Below.refl _ _) _)
  have Hb3 : Hid (Below w.heap.size w (w.alloc (.cells #[.int .u8 0, .int .u8 0, .int .u8 0, .int .u8 0, .int .u8 0, .int .u8 0, .int .u8 0, .int .u8 0, .int .u8 0, .int .u8 0, .int .u8 0, .int .u8 0, .int .u8 0, .int .u8 0, .int .u8 0, .int .u8 0] 24))) := bal (Below.refl _ _) _
  clear hD ht
  obtain ⟨k, hk⟩ : ∃ k, l.length / 64 = k := ⟨_, rfl⟩
  rw [hk] at HD3
  go_enter Tryd.func16, Tryd.ntmps16
  go_upto_region 3 with fail
  generalize w.alloc (.cells #[.int .u8 0, .int .u8 0, .int .u8 0, .int .u8 0, .int .u8 0, .int .u8 0, .int .u8 0, .int .u8 0, .int .u8 0, .int .u8 0, .int .u8 0, .int .u8 0, .int .u8 0, .int .u8 0, .int .u8 0, .int .u8 0] 24) = w3 at *
  obtain ⟨A0, c0, hu, hcc, -, hr0, hn0, -, -⟩ := HD3.out.tl.form
  obtain ⟨D, hD0⟩ : ∃ D, l.drop (64 * k) = D := ⟨_, rfl⟩
  rw [hD0] at hu hr0 hcc hn0
  rw [bv_length] at hu hcc hn0
  subst hu
  have hDl : D.length ≤ l.length := by rw [← hD0, List.length_drop]; omega
  have HCl := Lib.hid (fun W (h : Below w3.heap.size w3 W) => clone_any D A0 c0 W (hr0.below h) (by omega) hn0)
  clear hr0 hcc hn0 hDl
  refine wp_region_specs [
    Spec.val (.pointer (some ⟨R, 0, none⟩)),
    Spec.val (.pointer (some ⟨R, 0, none⟩)),
    Spec.val (.pointer (some ⟨R, 0, none⟩)),
    Spec.val (.agg #[.int .u32 ((HH l k).a : Nat), .int .u32 ((HH l k).b : Nat), .int .u32 ((HH l k).c : Nat), .int .u32 ((HH l k).d : Nat)]),
    Spec.val (.pointer (some ⟨R, 0, none⟩)),
    Spec.val (.pointer (some ⟨R, 0, none⟩)),
    Spec.val (.pointer (some ⟨R, 4, none⟩)),
    Spec.val (.slice A0 D.length c0),
    TlP w3.heap.size D,
    AgP w3.heap.size (HH l k) D,
    EnP w3.heap.size k l,
    EnP w3.heap.size k l] w3 (by kernel_rfl) (by repeat (first | exact Below.refl _ _ | assumption | refine below_drewN ?_ _ | refine Below.drew ?_ | refine Below.alloc ?_ (Nat.le_refl _) _ | refine bal ?_ _ | refine bnext ?_ (by assumption))) (n := 55) rfl (by decide +kernel) ⟨?_, ?_, ?_, ?_, ?_, ?_, ?_, ?_, ?_, ?_, ?_, ?_, trivial⟩ ?_
  · intro ac wd hJ hfr hdep
    have s0 : ac.tmps.getD 0 undef = .pointer (some ⟨R, 0, none⟩) := (hfr 0 (by decide)).trans rfl
    have s0' := slot' s0
    clear hfr hdep
    refine if_wanted rfl (fun Q => op_any (fun K hK => ?_))
    go_simp
    exact hK _ _ rfl hJ (Below.refl _ _)
  · intro ac wd hJ hfr hdep
    have s8 : ac.tmps.getD 8 undef = .pointer (some ⟨R, 0, none⟩) := hdep 0 _ 8 (by decide) rfl rfl
    have s8' := slot' s8
    clear hfr hdep
    refine if_wanted rfl (fun Q => op_any (fun K hK => ?_))
    go_simp
    exact hK _ _ rfl hJ (Below.refl _ _)
  · intro ac wd hJ hfr hdep
    have s9 : ac.tmps.getD 9 undef = .pointer (some ⟨R, 0, none⟩) := hdep 1 _ 9 (by decide) rfl rfl
    have s9' := slot' s9
    clear hfr hdep
    refine if_wanted rfl (fun Q => op_any (fun K hK => ?_))
    go_simp
    exact hK _ _ rfl hJ (Below.refl _ _)
  · intro ac wd hJ hfr hdep
    have s10 : ac.tmps.getD 10 undef = .pointer (some ⟨R, 0, none⟩) := hdep 2 _ 10 (by decide) rfl rfl
    have s10' := slot' s10
    clear hfr hdep
    refine if_wanted rfl (fun Q => op_any (fun K hK => ?_))
    obtain ⟨hq0, hq1, hq2, hq3, hq4⟩ := (HD3.out.below hJ).cells
    go_simp
    exact hK _ _ rfl hJ (Below.refl _ _)
  · intro ac wd hJ hfr hdep
    have s0 : ac.tmps.getD 0 undef = .pointer (some ⟨R, 0, none⟩) := (hfr 0 (by decide)).trans rfl
    have s0' := slot' s0
    clear hfr hdep
    refine if_wanted rfl (fun Q => op_any (fun K hK => ?_))
    go_simp
    exact hK _ _ rfl hJ (Below.refl _ _)
  · intro ac wd hJ hfr hdep
    have s12 : ac.tmps.getD 12 undef = .pointer (some ⟨R, 0, none⟩) := hdep 4 _ 12 (by decide) rfl rfl
    have s12' := slot' s12
    clear hfr hdep
    refine if_wanted rfl (fun Q => op_any (fun K hK => ?_))
    go_simp
    exact hK _ _ rfl hJ (Below.refl _ _)
  · intro ac wd hJ hfr hdep
    have s13 : ac.tmps.getD 13 undef = .pointer (some ⟨R, 0, none⟩) := hdep 5 _ 13 (by decide) rfl rfl
    have s13' := slot' s13
    clear hfr hdep
    refine if_wanted rfl (fun Q => op_any (fun K hK => ?_))
    go_simp
    exact hK _ _ rfl hJ (Below.refl _ _)
  · intro ac wd hJ hfr hdep
    have s14 : ac.tmps.getD 14 undef = .pointer (some ⟨R, 4, none⟩) := hdep 6 _ 14 (by decide) rfl rfl
    have s14' := slot' s14
    clear hfr hdep
    refine if_wanted rfl (fun Q => op_any (fun K hK => ?_))
    obtain ⟨hq0, hq1, hq2, hq3, hq4⟩ := (HD3.out.below hJ).cells
    go_simp
    exact hK _ _ rfl hJ (Below.refl _ _)
  · intro ac wd hJ hfr hdep
    have s15 : ac.tmps.getD 15 undef = .slice A0 D.length c0 := hdep 7 _ 15 (by decide) rfl rfl
    have s15' := slot' s15
    clear hfr hdep
    refine if_wanted rfl (fun Q => op_any (fun K hK => ?_))
    go_simp
    refine (HCl.out _ hJ).mono ?_
    rintro e wz ⟨v, rfl, Hown, hbz⟩
    obtain ⟨A', c', rfl, -, -, -⟩ := own_nilcap Hown.out
    exact hK _ _ ⟨A', c', rfl, (Tl.own Hown.out).less hJ.size⟩ (bnext hJ hbz) hbz
  · intro ac wd hJ hfr hdep
    have s11 : ac.tmps.getD 11 undef = .agg #[.int .u32 ((HH l k).a : Nat), .int .u32 ((HH l k).b : Nat), .int .u32 ((HH l k).c : Nat), .int .u32 ((HH l k).d : Nat)] := hdep 3 _ 11 (by decide) rfl rfl
    obtain ⟨A16, c16, s16, hT16⟩ := hdep 8 _ 16 (by decide) rfl rfl
    have s11' := slot' s11
    have s16' := slot' s16
    clear hfr hdep
    refine if_wanted rfl (fun Q => op_any (fun K hK => ?_))
    go_simp
    exact hK _ _ ⟨_, _, rfl, hT16⟩ hJ (Below.refl _ _)
  · intro ac wd hJ hfr hdep
    obtain ⟨A17, c17, s17, hT17⟩ := hdep 9 _ 17 (by decide) rfl rfl
    have s17' := slot' s17
    clear hfr hdep
    refine if_wanted rfl (fun Q => op_any (fun K hK => ?_))
    go_simp
    exact hK _ _ ⟨_, _, _, rfl, enP_new hD0 HD3.out.le hJ.size hT17⟩ (bal hJ _) (bal (Below.refl _ _) _)
  · intro ac wd hJ hfr hdep
    obtain ⟨g18, A18, c18, s18, hD18⟩ := hdep 10 _ 18 (by decide) rfl rfl
    have s18' := slot' s18
    clear hfr hdep
    refine if_wanted rfl (fun Q => op_any (fun K hK => ?_))
    go_simp
    exact hK _ _ ⟨_, _, _, rfl, hD18⟩ hJ (Below.refl _ _)
  intro f w' hJ hR
  have e0 : f 0 = .pointer (some ⟨R, 0, none⟩) := hR 0 (by decide)
  have e1 : f 1 = .pointer (some ⟨R, 0, none⟩) := hR 1 (by decide)
  have e2 : f 2 = .pointer (some ⟨R, 0, none⟩) := hR 2 (by decide)
  have e3 : f 3 = .agg #[.int .u32 ((HH l k).a : Nat), .int .u32 ((HH l k).b : Nat), .int .u32 ((HH l k).c : Nat), .int .u32 ((HH l k).d : Nat)] := hR 3 (by decide)
  have e4 : f 4 = .pointer (some ⟨R, 0, none⟩) := hR 4 (by decide)
  have e5 : f 5 = .pointer (some ⟨R, 0, none⟩) := hR 5 (by decide)
  have e6 : f 6 = .pointer (some ⟨R, 4, none⟩) := hR 6 (by decide)
  have e7 : f 7 = .slice A0 D.length c0 := hR 7 (by decide)
  obtain ⟨A8', c8', e8, hT8'⟩ := hR 8 (by decide)
  obtain ⟨A9', c9', e9, hT9'⟩ := hR 9 (by decide)
  obtain ⟨g10', A10', c10', e10, hD10'⟩ := hR 10 (by decide)
  obtain ⟨g11', A11', c11', e11, hD11'⟩ := hR 11 (by decide)
  clear hR
  simp only [finA, Act.put, List.setIfInBounds_toArray, List.set_cons_succ, List.set_cons_zero, Nat.reduceAdd, e0, e1, e2, e3, e4, e5, e6, e7, e8, e9, e10, e11]
  clear e0 e1 e2 e3 e4 e5 e6 e7 e8 e9 e10 e11
  have HO4 := Lib.hid (hrow_below HO.out hJ)
  have Hb4 : Hid (Below w.heap.size w w') := bnext Hb3.out hJ
  have HDR := Lib.hid (HD3.out.below hJ)
  have HT4 := Lib.hid (HT.out.below Hb4.out)
  have hRlt : R < w3.heap.size := HD3.out.inside
  have hOlt : w.heap.size < w3.heap.size := (Array.getElem?_eq_some_iff.1 HO.out).1
  have h2 : 2 ≤ w3.heap.size := by have := HT.out.two; omega
  have HD4 : Hid (Dg w' w3.heap.size g11' (l.length / 64) l 0 (.slice A11' (l.drop (64 * k)).length c11')) := by rw [hk]; exact hD11'
  clear hT8' hT9' hD10' hD11' HCl HD3 hD0 hk HO Hb3 hJ
  generalize (Value.slice A11' (l.drop (64 * k)).length c11') = V at *
  generalize g11' = E at *
  generalize w3.heap.size = H3 at *
  have HS4 : Hid (R < H3 ∧ w.heap.size < H3 ∧ 2 ≤ H3) := ⟨hRlt, hOlt, h2⟩
  have HA1 := Add1_any H3 E 0 l V 128 w' HD4.out (by omega) (by omega) HT4.out h2 _ rfl
  rw [show (((128 : UInt8).toNat : Nat) : Int) = 128 from rfl] at HA1
  have HA1 := Lib.hid HA1
  clear hRlt hOlt h2
  go_wp2_with fail
  refine HA1.out.mono ?_
  rintro e w5 ⟨rfl, u5, hD5, hf5⟩
  have HD5 := Lib.hid hD5
  have HF5 := Lib.hid hf5
  clear HA1 hD5 hf5
  go_wp2_with fail
  go_loopw [26] (fun x26 wr => ∃ (j : Nat) (u' : Value), j ≤ padZ l.length ∧ Hid (Dg wr H3 E ((l ++ [128] ++ List.replicate j 0).length / 64) (l ++ [128] ++ List.replicate j 0) (1 + j) u') ∧ Hid (FrW E V u' w' wr)) (fun _ wr => (120 - slLen (wr.cell? ⟨E, 4, none⟩)) % 64)
  case atStart => exact ⟨0, u5, by omega, by rw [List.replicate_zero, List.append_nil]; exact HD5.out, HF5.out⟩
  case round =>
    clear HD5 HF5
    obtain ⟨j, u6, hj, HDj, HFj⟩ := hrel
    obtain ⟨A6, c6, hu6, -⟩ := HDj.out.tl.form
    have hll : (l ++ [128] ++ List.replicate j 0).length = l.length + 1 + j := by simp <;> omega
    have hpz : padZ l.length < 64 := by unfold padZ; omega
    have hsz : (bv ((l ++ [128] ++ List.replicate j 0).drop (64 * ((l ++ [128] ++ List.replicate j 0).length / 64)))).length = (l.length + 1 + j) % 64 := by rw [bv_length, List.length_drop, hll]; omega
    rw [hsz] at hu6
    subst hu6
    obtain ⟨-, -, -, -, hc4⟩ := HDj.out.cells
    have hpa := pad_at l.length j hj
    by_cases hjj : j < padZ l.length
    · have hne := hpa.2 hjj
      have hcn : ((((l.length + 1 + j) % 64 : Nat) : Int) != 56) = true := by rw [bne_iff_ne]; omega
      have HA := Add1_any H3 E (1 + j) _ _ 0 wr HDj.out (by omega) (by rw [hll]; omega) (HT4.out.frw HFj.out HD4.out HS4.out.2.2) HS4.out.2.2 _ rfl
      rw [show (((0 : UInt8).toNat : Nat) : Int) = 0 from rfl, List.append_assoc (l ++ [128]), ← List.replicate_succ'] at HA
      have HA := Lib.hid HA
      have Hsz : Hid ((l.length + 1 + (j + 1)) % 64 = ((l.length + 1 + j) % 64 + 1) % 64 ∧ (l.length + 1 + j) % 64 ≠ 56 ∧ (l.length + 1 + j) % 64 < 64) := by refine ⟨?_, ?_, ?_⟩ <;> omega
      have Hll : Hid ((bv ((l ++ [128] ++ List.replicate (j + 1) 0).drop (64 * ((l ++ [128] ++ List.replicate (j + 1) 0).length / 64)))).length = (l.length + 1 + (j + 1)) % 64) := by
        show _ = _
        have : (l ++ [128] ++ List.replicate (j + 1) 0).length = l.length + 1 + (j + 1) := by simp <;> omega
        rw [bv_length, List.length_drop, this]; omega
      clear hsz hll hpa hne
      generalize (l.length + 1 + j) % 64 = r at *
      go_wp2_with fail
      refine HA.out.mono ?_
      rintro e w7 ⟨rfl, u7, hD7, hf7⟩
      have HD7 := Lib.hid hD7
      have HF7 := Lib.hid (HFj.out.trans hf7)
      obtain ⟨A7, c7, hu7, -⟩ := HD7.out.tl.form
      rw [Hll.out, Hsz.out.1] at hu7
      subst hu7
      obtain ⟨-, -, -, -, hc47⟩ := HD7.out.cells
      have Hc4 := Lib.hid (And.intro hc4 hc47)
      clear hD7 hf7 HA hc4 hc47 hcn
      go_wp2_with fail
      go_roundw
      case rel => exact ⟨j + 1, _, by omega, HD7.out, HF7.out⟩
      case measure =>
        rw [Hc4.out.1, Hc4.out.2]
        show (120 - (r + 1) % 64) % 64 < (120 - r) % 64
        have := Hsz.out.2.1
        have := Hsz.out.2.2
        omega
    · obtain rfl : j = padZ l.length := by omega
      have hne : (l.length + 1 + padZ l.length) % 64 = 56 := by
        by_cases h : (l.length + 1 + padZ l.length) % 64 = 56
        · exact h
        · exact absurd (hpa.1 h) (Nat.lt_irrefl _)
      have hcn : ((((l.length + 1 + padZ l.length) % 64 : Nat) : Int) != 56) = false := by rw [bne_eq_false_iff_eq]; omega
      have HDz := HDj.out
      have HFz := HFj.out
      have hpd : l ++ [128] ++ List.replicate (padZ l.length) 0 ++ lenB l.length = padd l := rfl
      obtain ⟨L1, hL1⟩ : ∃ L1, l ++ [128] ++ List.replicate (padZ l.length) 0 = L1 := ⟨_, rfl⟩
      rw [hL1] at HDz hll hpd
      have HDz := Lib.hid HDz
      have HFz := Lib.hid HFz
      have HL1 := Lib.hid hll
      have Hpd := Lib.hid hpd
      obtain ⟨V6, hV6⟩ : ∃ V6, Value.slice A6 ((l.length + 1 + padZ l.length) % 64) c6 = V6 := ⟨_, rfl⟩
      rw [hV6] at HDz HFz
      clear hsz hpa hL1 hpd hll HDj HFj hV6
      generalize (l.length + 1 + padZ l.length) % 64 = r at *
      generalize hpe : padZ l.length = pz at *
      go_wp2_with fail
      go_loopw [4, 33] (fun x4 i wr => ∃ (j : Nat) (u' : Value), j ≤ 8 ∧ i = .int .i64 j ∧ Hid (Dg wr H3 E ((L1 ++ (lenB l.length).take j).length / 64) (L1 ++ (lenB l.length).take j) (1 + pz + j) u') ∧ Hid (FrW E V u' w' wr)) (fun _ i _ => 8 - (intOf i).toNat)
      case atStart => exact ⟨0, _, by omega, rfl, by rw [List.take_zero, List.append_nil]; first | exact HDz.out | exact HDz, by first | exact HFz.out | exact HFz⟩
      case round =>
        clear HDz HFz
        obtain ⟨j, u8, hj, rfl, HDj, HFj⟩ := hrel
        have hRrow := HFj.out.fr.row HDR.out.row (by
          rintro (h | h)
          · have := HD4.out.bR; have := HS4.out.1; omega
          · have := (HD4.out.tl.lt R h).1; have := HS4.out.1; omega)
        have hc5 : wr.cell? ⟨R, 5, none⟩ = some (.int .i64 (l.length : Int)) := by rw [cell_of_row _ _ 5 _ _ _ hRrow]; simp [stC]
        by_cases hjj : j < 8
        · have hj8 : (j : Int) < 8 := by omega
          have hj0 : (0 : Int) ≤ 8 * (j : Int) := by omega
          have hjn : (8 * (j : Int)).toNat = 8 * j := by omega
          have hj64 : min (8 * j) 64 = 8 * j := by omega
          have hjl : ((lenB l.length).take j).length = j := by rw [List.length_take, lenB_length]; omega
          have hu1 : IntKind.u64.wrap (l.length : Int) = (l.length : Int) := u64_wrap2 l.length (by omega)
          have hu2 : IntKind.u64.wrap ((l.length : Int) * 8) = (l.length : Int) * 8 := by have := u64_wrap2 (l.length * 8) (by omega); rwa [Int.natCast_mul, Int.cast_ofNat_Int] at this
          have hu3 := u8_wrap (8 * l.length / 2 ^ (8 * j))
          rw [Int.natCast_ediv, Int.natCast_pow, Int.cast_ofNat_Int, Int.natCast_mul, Int.cast_ofNat_Int, Int.mul_comm] at hu3
          have hxx : (UInt8.ofNat (8 * l.length / 2 ^ (8 * j))).toNat = 8 * l.length / 2 ^ (8 * j) % 256 := by simp
          have HA := Add1_any H3 E (1 + pz + j) _ _ (UInt8.ofNat (8 * l.length / 2 ^ (8 * j))) wr HDj.out (by omega) (by rw [List.length_append, hjl, HL1.out]; omega) (HT4.out.frw HFj.out HD4.out HS4.out.2.2) HS4.out.2.2 _ rfl
          rw [hxx, List.append_assoc L1, ← lenB_take _ _ hjj] at HA
          have HA := Lib.hid HA
          clear hxx hjl hRrow
          generalize 8 * l.length / 2 ^ (8 * j) % 256 = bt at *
          go_wp2_with fail
          refine HA.out.mono ?_
          rintro e w7 ⟨rfl, u7, hD7, hf7⟩
          have HD7 := Lib.hid hD7
          have HF7 := Lib.hid (HFj.out.trans hf7)
          clear HA hD7 hf7
          go_wp2_with fail
          go_roundw
          case rel => exact ⟨j + 1, _, by omega, by go_num, HD7.out, HF7.out⟩
          case measure => simp [intOf] <;> omega
        · obtain rfl : j = 8 := by omega
          have hDf := HDj.out
          rw [List.take_of_length_le (by rw [lenB_length]; omega), Hpd.out] at hDf
          have hOr := HFj.out.fr.row HO4.out (by
            rintro (h | h)
            · have := HD4.out.bR; have := HS4.out.2.1; omega
            · have := (HD4.out.tl.lt _ h).1; have := HS4.out.2.1; omega)
          have HSm := Lib.hid (sum_any E (mdS l) (HH_ok _ _) _ _ wr hDf.row)
          have Hb8 : Hid (Below w.heap.size w wr) := HFj.out.under Hb4.out HD4.out (by have := HS4.out.2.1; omega)
          have HOr := Lib.hid hOr
          clear hDf hOr hRrow hc5
          rw [show ((8 : Nat) : Int) = 8 from rfl]
          go_wp2_with fail
          refine HSm.out.mono ?_
          rintro e w9 ⟨rfl, hb9⟩
          have HO9 := Lib.hid (hrow_below HOr.out hb9)
          have Hb9 := Lib.hid (bnext Hb8.out hb9)
          clear HSm hb9 HOr
          go_wp2_with (refine wpList_store_row (c := osR (mdS l) 0) (c' := osR (mdS l) 16) (t := 24) rfl 24 _ _ rfl w.heap.size rfl rfl HO9.out (osR_info _ 16) (by rw [osR_size, osR_size]) (osR_one _ 16) ?_)
          exact bodyPost_ret (results_cell_row (cs := osR (mdS l) 16) (t := 24) (fr := (0, 0)) (g := w.heap.size) Tryd.results16 _ _ _ rfl (setRow_heap _ w.heap.size _ _ 24 (0, 0) HO9.out) Tryd.underlying24 rfl (osR_info _ 16)) rfl ⟨rfl, Below.setRow Hb9.out (Nat.le_refl _) _⟩

set_option maxRecDepth 100000 in
set_option maxHeartbeats 8000000 in
theorem DSumN_any (l : List UInt8) (hl0 : l = []) (w : World) (ht : Tabs w) :
    Calls Tryd.prog 16 #[.pointer none] w fun e w' => e = .returned (.agg (osR (mdS l) 16)) ∧ Below w.heap.size w w' := by
  have HT := Lib.hid ht
  have HO : Hid ((w.alloc (.cells #[.int .u8 0, .int .u8 0, .int .u8 0, .int .u8 0, .int .u8 0, .int .u8 0, .int .u8 0, .int .u8 0, .int .u8 0, .int .u8 0, .int .u8 0, .int .u8 0, .int .u8 0, .int .u8 0, .int .u8 0, .int .u8 0] 24)).heap[w.heap.size]? = some (.cells (osR (mdS l) 0) 24 (0, 0))) := heap_alloc_last w _
  have Hb3 : Hid (Below w.heap.size w (w.alloc (.cells #[.int .u8 0, .int .u8 0, .int .u8 0, .int .u8 0, .int .u8 0, .int .u8 0, .int .u8 0, .int .u8 0, .int .u8 0, .int .u8 0, .int .u8 0, .int .u8 0, .int .u8 0, .int .u8 0, .int .u8 0, .int .u8 0] 24))) := bal (Below.refl _ _) _
  have Hl0 := Lib.hid hl0
  have hlen : l.length ≤ 90000 := by rw [hl0]; simp
  have Hsz : Hid ((w.alloc (.cells #[.int .u8 0, .int .u8 0, .int .u8 0, .int .u8 0, .int .u8 0, .int .u8 0, .int .u8 0, .int .u8 0, .int .u8 0, .int .u8 0, .int .u8 0, .int .u8 0, .int .u8 0, .int .u8 0, .int .u8 0, .int .u8 0] 24)).heap.size = w.heap.size + 1) := World.size_alloc _ _
  have HN := New_any (w.alloc (.cells #[.int .u8 0, .int .u8 0, .int .u8 0, .int .u8 0, .int .u8 0, .int .u8 0, .int .u8 0, .int .u8 0, .int .u8 0, .int .u8 0, .int .u8 0, .int .u8 0, .int .u8 0, .int .u8 0, .int .u8 0, .int .u8 0] 24))
  rw [World.size_alloc] at HN
  have HN := Lib.hid HN
  clear ht hl0
  obtain ⟨k, hk⟩ : ∃ k, l.length / 64 = k := ⟨_, rfl⟩
  go_enter Tryd.func16, Tryd.ntmps16
  go_wp2_with fail
  generalize w.alloc (.cells #[.int .u8 0, .int .u8 0, .int .u8 0, .int .u8 0, .int .u8 0, .int .u8 0, .int .u8 0, .int .u8 0, .int .u8 0, .int .u8 0, .int .u8 0, .int .u8 0, .int .u8 0, .int .u8 0, .int .u8 0, .int .u8 0] 24) = w2 at *
  refine HN.out.mono ?_
  rintro e w3 ⟨rfl, hD3, hb3⟩
  rw [← Hsz.out] at hb3
  have hb3' : Below w.heap.size w w3 := bnext Hb3.out hb3
  have HD3 : Hid (Dg w3 (w.heap.size + 1) (w.heap.size + 1) k l l.length (.slice none 0 0)) := by
    have hk0 : k = 0 := by rw [← hk, Hl0.out]; rfl
    rw [hk0, Hl0.out]
    exact hD3
  have HO := Lib.hid (hrow_below HO.out hb3)
  have Hb3 := Lib.hid hb3'
  clear hD3 hb3 hb3' HN Hsz
  generalize w.heap.size + 1 = R at HD3 ⊢
  go_upto_region 3 with fail
  obtain ⟨u, hu0⟩ : ∃ u, Value.slice none 0 0 = u := ⟨_, rfl⟩
  rw [hu0] at HD3
  clear hu0
  obtain ⟨A0, c0, hu, hcc, -, hr0, hn0, -, -⟩ := HD3.out.tl.form
  obtain ⟨D, hD0⟩ : ∃ D, l.drop (64 * k) = D := ⟨_, rfl⟩
  rw [hD0] at hu hr0 hcc hn0
  rw [bv_length] at hu hcc hn0
  subst hu
  have hDl : D.length ≤ l.length := by rw [← hD0, List.length_drop]; omega
  have HCl := Lib.hid (fun W (h : Below w3.heap.size w3 W) => clone_any D A0 c0 W (hr0.below h) (by omega) hn0)
  clear hr0 hcc hn0 hDl
  refine wp_region_specs [
    Spec.val (.pointer (some ⟨R, 0, none⟩)),
    Spec.val (.pointer (some ⟨R, 0, none⟩)),
    Spec.val (.pointer (some ⟨R, 0, none⟩)),
    Spec.val (.agg #[.int .u32 ((HH l k).a : Nat), .int .u32 ((HH l k).b : Nat), .int .u32 ((HH l k).c : Nat), .int .u32 ((HH l k).d : Nat)]),
    Spec.val (.pointer (some ⟨R, 0, none⟩)),
    Spec.val (.pointer (some ⟨R, 0, none⟩)),
    Spec.val (.pointer (some ⟨R, 4, none⟩)),
    Spec.val (.slice A0 D.length c0),
    TlP w3.heap.size D,
    AgP w3.heap.size (HH l k) D,
    EnP w3.heap.size k l,
    EnP w3.heap.size k l] w3 (by kernel_rfl) (by repeat (first | exact Below.refl _ _ | assumption | refine below_drewN ?_ _ | refine Below.drew ?_ | refine Below.alloc ?_ (Nat.le_refl _) _ | refine bal ?_ _ | refine bnext ?_ (by assumption))) (n := 55) rfl (by decide +kernel) ⟨?_, ?_, ?_, ?_, ?_, ?_, ?_, ?_, ?_, ?_, ?_, ?_, trivial⟩ ?_
  · intro ac wd hJ hfr hdep
    have s0 : ac.tmps.getD 0 undef = .pointer (some ⟨R, 0, none⟩) := (hfr 0 (by decide)).trans rfl
    have s0' := slot' s0
    clear hfr hdep
    refine if_wanted rfl (fun Q => op_any (fun K hK => ?_))
    go_simp
    exact hK _ _ rfl hJ (Below.refl _ _)
  · intro ac wd hJ hfr hdep
    have s8 : ac.tmps.getD 8 undef = .pointer (some ⟨R, 0, none⟩) := hdep 0 _ 8 (by decide) rfl rfl
    have s8' := slot' s8
    clear hfr hdep
    refine if_wanted rfl (fun Q => op_any (fun K hK => ?_))
    go_simp
    exact hK _ _ rfl hJ (Below.refl _ _)
  · intro ac wd hJ hfr hdep
    have s9 : ac.tmps.getD 9 undef = .pointer (some ⟨R, 0, none⟩) := hdep 1 _ 9 (by decide) rfl rfl
    have s9' := slot' s9
    clear hfr hdep
    refine if_wanted rfl (fun Q => op_any (fun K hK => ?_))
    go_simp
    exact hK _ _ rfl hJ (Below.refl _ _)
  · intro ac wd hJ hfr hdep
    have s10 : ac.tmps.getD 10 undef = .pointer (some ⟨R, 0, none⟩) := hdep 2 _ 10 (by decide) rfl rfl
    have s10' := slot' s10
    clear hfr hdep
    refine if_wanted rfl (fun Q => op_any (fun K hK => ?_))
    obtain ⟨hq0, hq1, hq2, hq3, hq4⟩ := (HD3.out.below hJ).cells
    go_simp
    exact hK _ _ rfl hJ (Below.refl _ _)
  · intro ac wd hJ hfr hdep
    have s0 : ac.tmps.getD 0 undef = .pointer (some ⟨R, 0, none⟩) := (hfr 0 (by decide)).trans rfl
    have s0' := slot' s0
    clear hfr hdep
    refine if_wanted rfl (fun Q => op_any (fun K hK => ?_))
    go_simp
    exact hK _ _ rfl hJ (Below.refl _ _)
  · intro ac wd hJ hfr hdep
    have s12 : ac.tmps.getD 12 undef = .pointer (some ⟨R, 0, none⟩) := hdep 4 _ 12 (by decide) rfl rfl
    have s12' := slot' s12
    clear hfr hdep
    refine if_wanted rfl (fun Q => op_any (fun K hK => ?_))
    go_simp
    exact hK _ _ rfl hJ (Below.refl _ _)
  · intro ac wd hJ hfr hdep
    have s13 : ac.tmps.getD 13 undef = .pointer (some ⟨R, 0, none⟩) := hdep 5 _ 13 (by decide) rfl rfl
    have s13' := slot' s13
    clear hfr hdep
    refine if_wanted rfl (fun Q => op_any (fun K hK => ?_))
    go_simp
    exact hK _ _ rfl hJ (Below.refl _ _)
  · intro ac wd hJ hfr hdep
    have s14 : ac.tmps.getD 14 undef = .pointer (some ⟨R, 4, none⟩) := hdep 6 _ 14 (by decide) rfl rfl
    have s14' := slot' s14
    clear hfr hdep
    refine if_wanted rfl (fun Q => op_any (fun K hK => ?_))
    obtain ⟨hq0, hq1, hq2, hq3, hq4⟩ := (HD3.out.below hJ).cells
    go_simp
    exact hK _ _ rfl hJ (Below.refl _ _)
  · intro ac wd hJ hfr hdep
    have s15 : ac.tmps.getD 15 undef = .slice A0 D.length c0 := hdep 7 _ 15 (by decide) rfl rfl
    have s15' := slot' s15
    clear hfr hdep
    refine if_wanted rfl (fun Q => op_any (fun K hK => ?_))
    go_simp
    refine (HCl.out _ hJ).mono ?_
    rintro e wz ⟨v, rfl, Hown, hbz⟩
    obtain ⟨A', c', rfl, -, -, -⟩ := own_nilcap Hown.out
    exact hK _ _ ⟨A', c', rfl, (Tl.own Hown.out).less hJ.size⟩ (bnext hJ hbz) hbz
  · intro ac wd hJ hfr hdep
    have s11 : ac.tmps.getD 11 undef = .agg #[.int .u32 ((HH l k).a : Nat), .int .u32 ((HH l k).b : Nat), .int .u32 ((HH l k).c : Nat), .int .u32 ((HH l k).d : Nat)] := hdep 3 _ 11 (by decide) rfl rfl
    obtain ⟨A16, c16, s16, hT16⟩ := hdep 8 _ 16 (by decide) rfl rfl
    have s11' := slot' s11
    have s16' := slot' s16
    clear hfr hdep
    refine if_wanted rfl (fun Q => op_any (fun K hK => ?_))
    go_simp
    exact hK _ _ ⟨_, _, rfl, hT16⟩ hJ (Below.refl _ _)
  · intro ac wd hJ hfr hdep
    obtain ⟨A17, c17, s17, hT17⟩ := hdep 9 _ 17 (by decide) rfl rfl
    have s17' := slot' s17
    clear hfr hdep
    refine if_wanted rfl (fun Q => op_any (fun K hK => ?_))
    go_simp
    exact hK _ _ ⟨_, _, _, rfl, enP_new hD0 HD3.out.le hJ.size hT17⟩ (bal hJ _) (bal (Below.refl _ _) _)
  · intro ac wd hJ hfr hdep
    obtain ⟨g18, A18, c18, s18, hD18⟩ := hdep 10 _ 18 (by decide) rfl rfl
    have s18' := slot' s18
    clear hfr hdep
    refine if_wanted rfl (fun Q => op_any (fun K hK => ?_))
    go_simp
    exact hK _ _ ⟨_, _, _, rfl, hD18⟩ hJ (Below.refl _ _)
  intro f w' hJ hR
  have e0 : f 0 = .pointer (some ⟨R, 0, none⟩) := hR 0 (by decide)
  have e1 : f 1 = .pointer (some ⟨R, 0, none⟩) := hR 1 (by decide)
  have e2 : f 2 = .pointer (some ⟨R, 0, none⟩) := hR 2 (by decide)
  have e3 : f 3 = .agg #[.int .u32 ((HH l k).a : Nat), .int .u32 ((HH l k).b : Nat), .int .u32 ((HH l k).c : Nat), .int .u32 ((HH l k).d : Nat)] := hR 3 (by decide)
  have e4 : f 4 = .pointer (some ⟨R, 0, none⟩) := hR 4 (by decide)
  have e5 : f 5 = .pointer (some ⟨R, 0, none⟩) := hR 5 (by decide)
  have e6 : f 6 = .pointer (some ⟨R, 4, none⟩) := hR 6 (by decide)
  have e7 : f 7 = .slice A0 D.length c0 := hR 7 (by decide)
  obtain ⟨A8', c8', e8, hT8'⟩ := hR 8 (by decide)
  obtain ⟨A9', c9', e9, hT9'⟩ := hR 9 (by decide)
  obtain ⟨g10', A10', c10', e10, hD10'⟩ := hR 10 (by decide)
  obtain ⟨g11', A11', c11', e11, hD11'⟩ := hR 11 (by decide)
  clear hR
  simp only [finA, Act.put, List.setIfInBounds_toArray, List.set_cons_succ, List.set_cons_zero, Nat.reduceAdd, e0, e1, e2, e3, e4, e5, e6, e7, e8, e9, e10, e11]
  clear e0 e1 e2 e3 e4 e5 e6 e7 e8 e9 e10 e11
  have HO4 := Lib.hid (hrow_below HO.out hJ)
  have Hb4 : Hid (Below w.heap.size w w') := bnext Hb3.out hJ
  have HDR := Lib.hid (HD3.out.below hJ)
  have HT4 := Lib.hid (HT.out.below Hb4.out)
  have hRlt : R < w3.heap.size := HD3.out.inside
  have hOlt : w.heap.size < w3.heap.size := (Array.getElem?_eq_some_iff.1 HO.out).1
  have h2 : 2 ≤ w3.heap.size := by have := HT.out.two; omega
  have HD4 : Hid (Dg w' w3.heap.size g11' (l.length / 64) l 0 (.slice A11' (l.drop (64 * k)).length c11')) := by rw [hk]; exact hD11'
  clear hT8' hT9' hD10' hD11' HCl HD3 hD0 hk HO Hb3 hJ
  generalize (Value.slice A11' (l.drop (64 * k)).length c11') = V at *
  generalize g11' = E at *
  generalize w3.heap.size = H3 at *
  have HS4 : Hid (R < H3 ∧ w.heap.size < H3 ∧ 2 ≤ H3) := ⟨hRlt, hOlt, h2⟩
  have HA1 := Add1_any H3 E 0 l V 128 w' HD4.out (by omega) (by omega) HT4.out h2 _ rfl
  rw [show (((128 : UInt8).toNat : Nat) : Int) = 128 from rfl] at HA1
  have HA1 := Lib.hid HA1
  clear hRlt hOlt h2
  go_wp2_with fail
  refine HA1.out.mono ?_
  rintro e w5 ⟨rfl, u5, hD5, hf5⟩
  have HD5 := Lib.hid hD5
  have HF5 := Lib.hid hf5
  clear HA1 hD5 hf5
  go_wp2_with fail
  go_loopw [26] (fun x26 wr => ∃ (j : Nat) (u' : Value), j ≤ padZ l.length ∧ Hid (Dg wr H3 E ((l ++ [128] ++ List.replicate j 0).length / 64) (l ++ [128] ++ List.replicate j 0) (1 + j) u') ∧ Hid (FrW E V u' w' wr)) (fun _ wr => (120 - slLen (wr.cell? ⟨E, 4, none⟩)) % 64)
  case atStart => exact ⟨0, u5, by omega, by rw [List.replicate_zero, List.append_nil]; exact HD5.out, HF5.out⟩
  case round =>
    clear HD5 HF5
    obtain ⟨j, u6, hj, HDj, HFj⟩ := hrel
    obtain ⟨A6, c6, hu6, -⟩ := HDj.out.tl.form
    have hll : (l ++ [128] ++ List.replicate j 0).length = l.length + 1 + j := by simp <;> omega
    have hpz : padZ l.length < 64 := by unfold padZ; omega
    have hsz : (bv ((l ++ [128] ++ List.replicate j 0).drop (64 * ((l ++ [128] ++ List.replicate j 0).length / 64)))).length = (l.length + 1 + j) % 64 := by rw [bv_length, List.length_drop, hll]; omega
    rw [hsz] at hu6
    subst hu6
    obtain ⟨-, -, -, -, hc4⟩ := HDj.out.cells
    have hpa := pad_at l.length j hj
    by_cases hjj : j < padZ l.length
    · have hne := hpa.2 hjj
      have hcn : ((((l.length + 1 + j) % 64 : Nat) : Int) != 56) = true := by rw [bne_iff_ne]; omega
      have HA := Add1_any H3 E (1 + j) _ _ 0 wr HDj.out (by omega) (by rw [hll]; omega) (HT4.out.frw HFj.out HD4.out HS4.out.2.2) HS4.out.2.2 _ rfl
      rw [show (((0 : UInt8).toNat : Nat) : Int) = 0 from rfl, List.append_assoc (l ++ [128]), ← List.replicate_succ'] at HA
      have HA := Lib.hid HA
      have Hsz : Hid ((l.length + 1 + (j + 1)) % 64 = ((l.length + 1 + j) % 64 + 1) % 64 ∧ (l.length + 1 + j) % 64 ≠ 56 ∧ (l.length + 1 + j) % 64 < 64) := by refine ⟨?_, ?_, ?_⟩ <;> omega
      have Hll : Hid ((bv ((l ++ [128] ++ List.replicate (j + 1) 0).drop (64 * ((l ++ [128] ++ List.replicate (j + 1) 0).length / 64)))).length = (l.length + 1 + (j + 1)) % 64) := by
        show _ = _
        have : (l ++ [128] ++ List.replicate (j + 1) 0).length = l.length + 1 + (j + 1) := by simp <;> omega
        rw [bv_length, List.length_drop, this]; omega
      clear hsz hll hpa hne
      generalize (l.length + 1 + j) % 64 = r at *
      go_wp2_with fail
      refine HA.out.mono ?_
      rintro e w7 ⟨rfl, u7, hD7, hf7⟩
      have HD7 := Lib.hid hD7
      have HF7 := Lib.hid (HFj.out.trans hf7)
      obtain ⟨A7, c7, hu7, -⟩ := HD7.out.tl.form
      rw [Hll.out, Hsz.out.1] at hu7
      subst hu7
      obtain ⟨-, -, -, -, hc47⟩ := HD7.out.cells
      have Hc4 := Lib.hid (And.intro hc4 hc47)
      clear hD7 hf7 HA hc4 hc47 hcn
      go_wp2_with fail
      go_roundw
      case rel => exact ⟨j + 1, _, by omega, HD7.out, HF7.out⟩
      case measure =>
        rw [Hc4.out.1, Hc4.out.2]
        show (120 - (r + 1) % 64) % 64 < (120 - r) % 64
        have := Hsz.out.2.1
        have := Hsz.out.2.2
        omega
    · obtain rfl : j = padZ l.length := by omega
      have hne : (l.length + 1 + padZ l.length) % 64 = 56 := by
        by_cases h : (l.length + 1 + padZ l.length) % 64 = 56
        · exact h
        · exact absurd (hpa.1 h) (Nat.lt_irrefl _)
      have hcn : ((((l.length + 1 + padZ l.length) % 64 : Nat) : Int) != 56) = false := by rw [bne_eq_false_iff_eq]; omega
      have HDz := HDj.out
      have HFz := HFj.out
      have hpd : l ++ [128] ++ List.replicate (padZ l.length) 0 ++ lenB l.length = padd l := rfl
      obtain ⟨L1, hL1⟩ : ∃ L1, l ++ [128] ++ List.replicate (padZ l.length) 0 = L1 := ⟨_, rfl⟩
      rw [hL1] at HDz hll hpd
      have HDz := Lib.hid HDz
      have HFz := Lib.hid HFz
      have HL1 := Lib.hid hll
      have Hpd := Lib.hid hpd
      obtain ⟨V6, hV6⟩ : ∃ V6, Value.slice A6 ((l.length + 1 + padZ l.length) % 64) c6 = V6 := ⟨_, rfl⟩
      rw [hV6] at HDz HFz
      clear hsz hpa hL1 hpd hll HDj HFj hV6
      generalize (l.length + 1 + padZ l.length) % 64 = r at *
      generalize hpe : padZ l.length = pz at *
      go_wp2_with fail
      go_loopw [4, 33] (fun x4 i wr => ∃ (j : Nat) (u' : Value), j ≤ 8 ∧ i = .int .i64 j ∧ Hid (Dg wr H3 E ((L1 ++ (lenB l.length).take j).length / 64) (L1 ++ (lenB l.length).take j) (1 + pz + j) u') ∧ Hid (FrW E V u' w' wr)) (fun _ i _ => 8 - (intOf i).toNat)
      case atStart => exact ⟨0, _, by omega, rfl, by rw [List.take_zero, List.append_nil]; first | exact HDz.out | exact HDz, by first | exact HFz.out | exact HFz⟩
      case round =>
        clear HDz HFz
        obtain ⟨j, u8, hj, rfl, HDj, HFj⟩ := hrel
        have hRrow := HFj.out.fr.row HDR.out.row (by
          rintro (h | h)
          · have := HD4.out.bR; have := HS4.out.1; omega
          · have := (HD4.out.tl.lt R h).1; have := HS4.out.1; omega)
        have hc5 : wr.cell? ⟨R, 5, none⟩ = some (.int .i64 (l.length : Int)) := by rw [cell_of_row _ _ 5 _ _ _ hRrow]; simp [stC]
        by_cases hjj : j < 8
        · have hj8 : (j : Int) < 8 := by omega
          have hj0 : (0 : Int) ≤ 8 * (j : Int) := by omega
          have hjn : (8 * (j : Int)).toNat = 8 * j := by omega
          have hj64 : min (8 * j) 64 = 8 * j := by omega
          have hjl : ((lenB l.length).take j).length = j := by rw [List.length_take, lenB_length]; omega
          have hu1 : IntKind.u64.wrap (l.length : Int) = (l.length : Int) := u64_wrap2 l.length (by omega)
          have hu2 : IntKind.u64.wrap ((l.length : Int) * 8) = (l.length : Int) * 8 := by have := u64_wrap2 (l.length * 8) (by omega); rwa [Int.natCast_mul, Int.cast_ofNat_Int] at this
          have hu3 := u8_wrap (8 * l.length / 2 ^ (8 * j))
          rw [Int.natCast_ediv, Int.natCast_pow, Int.cast_ofNat_Int, Int.natCast_mul, Int.cast_ofNat_Int, Int.mul_comm] at hu3
          have hxx : (UInt8.ofNat (8 * l.length / 2 ^ (8 * j))).toNat = 8 * l.length / 2 ^ (8 * j) % 256 := by simp
          have HA := Add1_any H3 E (1 + pz + j) _ _ (UInt8.ofNat (8 * l.length / 2 ^ (8 * j))) wr HDj.out (by omega) (by rw [List.length_append, hjl, HL1.out]; omega) (HT4.out.frw HFj.out HD4.out HS4.out.2.2) HS4.out.2.2 _ rfl
          rw [hxx, List.append_assoc L1, ← lenB_take _ _ hjj] at HA
          have HA := Lib.hid HA
          clear hxx hjl hRrow
          generalize 8 * l.length / 2 ^ (8 * j) % 256 = bt at *
          go_wp2_with fail
          refine HA.out.mono ?_
          rintro e w7 ⟨rfl, u7, hD7, hf7⟩
          have HD7 := Lib.hid hD7
          have HF7 := Lib.hid (HFj.out.trans hf7)
          clear HA hD7 hf7
          go_wp2_with fail
          go_roundw
          case rel => exact ⟨j + 1, _, by omega, by go_num, HD7.out, HF7.out⟩
          case measure => simp [intOf] <;> omega
        · obtain rfl : j = 8 := by omega
          have hDf := HDj.out
          rw [List.take_of_length_le (by rw [lenB_length]; omega), Hpd.out] at hDf
          have hOr := HFj.out.fr.row HO4.out (by
            rintro (h | h)
            · have := HD4.out.bR; have := HS4.out.2.1; omega
            · have := (HD4.out.tl.lt _ h).1; have := HS4.out.2.1; omega)
          have HSm := Lib.hid (sum_any E (mdS l) (HH_ok _ _) _ _ wr hDf.row)
          have Hb8 : Hid (Below w.heap.size w wr) := HFj.out.under Hb4.out HD4.out (by have := HS4.out.2.1; omega)
          have HOr := Lib.hid hOr
          clear hDf hOr hRrow hc5
          rw [show ((8 : Nat) : Int) = 8 from rfl]
          go_wp2_with fail
          refine HSm.out.mono ?_
          rintro e w9 ⟨rfl, hb9⟩
          have HO9 := Lib.hid (hrow_below HOr.out hb9)
          have Hb9 := Lib.hid (bnext Hb8.out hb9)
          clear HSm hb9 HOr
          go_wp2_with (refine wpList_store_row (c := osR (mdS l) 0) (c' := osR (mdS l) 16) (t := 24) rfl 24 _ _ rfl w.heap.size rfl rfl HO9.out (osR_info _ 16) (by rw [osR_size, osR_size]) (osR_one _ 16) ?_)
          exact bodyPost_ret (results_cell_row (cs := osR (mdS l) 16) (t := 24) (fr := (0, 0)) (g := w.heap.size) Tryd.results16 _ _ _ rfl (setRow_heap _ w.heap.size _ _ 24 (0, 0) HO9.out) Tryd.underlying24 rfl (osR_info _ 16)) rfl ⟨rfl, Below.setRow Hb9.out (Nat.le_refl _) _⟩
end Go.Proofs.YtibhhebfenkeaaaDoor
