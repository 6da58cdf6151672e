/-
  jetsamlaw04.DigestParts: its walk. Printed by wip/gen/parts04.py.
-/
import Derived.Test.YtibhhebfenkeaaaDoorTells04
import Derived.Test.YtibhhebfenkeaaaDoorMono
namespace Go.Proofs.YtibhhebfenkeaaaDoor
open Go.RowKit

theorem neq16 (w : World) (s : S4) : (binOp .neq 24 (.agg (osR s 16)) (.agg (osR s 16))).run Tryd.prog w = .ok (.bool false) w := by
  rw [run_neq_struct, eq16]; rfl
theorem one_frw {w a : World} {B R k z : Nat} {F m : List UInt8} {u v : Value} {T : TypeId} (hD : Dg a B R k F z u) (hb : Below w.heap.size w a) (hB : w.heap.size ≤ B) (hv : BZ w v m) :
    ∀ W u', FrW R u u' (a.alloc (.cells #[v] T (0, 0))) W → Rd W (some ⟨a.heap.size, 0, none⟩) [v] ∧ ∀ (j : Nat) (x : Value) (y : List UInt8), [v][j]? = some x → [m][j]? = some y → BZ W x y := by
  intro W u' f
  have hDa := hD.below (bal (Below.refl _ a) (.cells #[v] T (0, 0)))
  have hrow := f.fr.row (heap_alloc_last a (.cells #[v] T (0, 0))) (by
    rintro (h | h)
    · have := hD.inside; omega
    · have := (hD.tl.lt _ h).2; omega)
  refine ⟨fun j x hx => ⟨_, _, rfl, ?_⟩, fun j x y hx hy => ?_⟩
  · rw [cell_of_row _ _ _ _ _ _ hrow, Nat.zero_add]; simpa using hx
  · match j with
    | 0 =>
      simp at hx hy
      subst hx hy
      exact hv.below (f.under (bnext hb (bal (Below.refl _ a) _)) hDa hB)

set_option maxRecDepth 100000 in
set_option maxHeartbeats 16000000 in
theorem parts_walk (ls : List (List UInt8)) (A : Option Addr) (c : Nat) (w : World) (hB : BZZ w A ls) (hlc : ls.length ≤ c) (hcm : c ≤ maxLen) (ht : Tabs w) :
    Calls Tryd.prog 6 #[.slice A ls.length c] w fun e w' => e = .returned (.bool true) ∧ Below w.heap.size w w' := by
  have HT := Lib.hid ht
  have HN := Lib.hid (New_any w)
  clear ht
  by_cases h20 : (ls.length : Int) > 20
  · go_enter Tryd.func6, Tryd.ntmps6
    go_wp2_with fail
    refine HN.out.mono ?_
    rintro e w1 ⟨rfl, hD1, hb1⟩
    have Hb1 := Lib.hid hb1
    clear hD1 hb1 HN
    go_wp2_with fail
    refine (awake_any _ (HT.out.below Hb1.out)).mono ?_
    rintro e w9 ⟨rfl, hb9⟩
    have hb10 := bnext Hb1.out hb9
    go_wp2_with fail
    go_ret
    exact ⟨rfl, hb10⟩
  have hn20 : ls.length ≤ 20 := by omega
  obtain ⟨vs, hvl, hrd, hx⟩ := hB
  have HV := Lib.hid (fun W (h : Below w.heap.size w W) => (⟨hrd.below h, fun j x y h1 h2 => (hx j x y h1 h2).below h⟩ : Rd W A vs ∧ ∀ (j : Nat) (x : Value) (y : List UInt8), vs[j]? = some x → ls[j]? = some y → BZ W x y))
  have Hlc := Lib.hid hlc
  have Hcm := Lib.hid hcm
  clear hrd hx hlc hcm
  go_enter Tryd.func6, Tryd.ntmps6
  go_wp2_with fail
  refine HN.out.mono ?_
  rintro e w1 ⟨rfl, hD1, hb1⟩
  have Hb1 := Lib.hid hb1
  have HD1 : Hid (Dg w1 w.heap.size w.heap.size (([] : List UInt8).length / 64) [] ([] : List UInt8).length (.slice none 0 0)) := hD1
  have H2 := Lib.hid HT.out.two
  clear hD1 hb1 HN
  go_wp2_with fail
  go_loopw [4, 5, 6] (fun x4 i x6 wr => ∃ (k : Nat) (u : Value) (A4 : Option Addr) (c4 : Nat), k ≤ ls.length ∧ i = .int .i64 k ∧ x4 = .slice A4 (ls.take k).flatten.length c4 ∧ Hid (Dg wr w.heap.size w.heap.size ((ls.take k).flatten.length / 64) (ls.take k).flatten (ls.take k).flatten.length u) ∧ Hid (Tl wr w.heap.size (.slice A4 (ls.take k).flatten.length c4) (bv (ls.take k).flatten)) ∧ Hid ((Value.slice A4 (ls.take k).flatten.length c4).ownBlock ≠ some w.heap.size ∧ ∀ b, (Value.slice A4 (ls.take k).flatten.length c4).ownBlock = some b → u.ownBlock ≠ some b) ∧ Hid (Below w.heap.size w wr) ∧ Hid ((ls.take k).flatten.length ≤ 100 * k)) (fun _ i _ _ => ls.length - (intOf i).toNat)
  case atStart => exact ⟨0, .slice none 0 0, none, 0, by omega, rfl, rfl, HD1.out, Tl.nil _ _, ⟨(by simp [Value.ownBlock]), fun b h => by simp [Value.ownBlock] at h⟩, Hb1.out, by show _ ≤ _; simp⟩
  case round =>
    clear HD1 Hb1
    obtain ⟨k, u, A4, c4, hk, rfl, rfl, HD, HTl, Hap, Hb, H100⟩ := hrel
    by_cases hkk : k < ls.length
    · obtain ⟨hrd, hx⟩ := HV.out wr Hb.out
      have hkI : (k : Int) < ls.length := by omega
      have hk0 : (0 : Int) ≤ (k : Int) := by omega
      obtain ⟨b, o, rfl, hcell⟩ := hrd.at_ (j := k) (by omega)
      have hBZ := hx k vs[k] ls[k] (List.getElem?_eq_getElem (by omega)) (List.getElem?_eq_getElem hkk)
      have hBZ0 := (HV.out w (Below.refl _ _)).2 k vs[k] ls[k] (List.getElem?_eq_getElem (by omega)) (List.getElem?_eq_getElem hkk)
      have hlt : b < wr.heap.size := cell_lt hcell
      obtain ⟨Am, cm, em, hcm, hrm, hnm⟩ := hBZ
      rw [em] at hcell hBZ0
      have Hfl : Hid ((ls.take (k + 1)).flatten = (ls.take k).flatten ++ ls[k]) := by
        show _ = _
        rw [List.take_succ_eq_append_getElem hkk, List.flatten_append]
        simp
      have HBZ0 := Lib.hid hBZ0
      have Hrm := Lib.hid hrm
      have Hnm := Lib.hid hnm
      have HL : Hid (BZZ w (some ⟨b, o, none⟩) (ls.take (k + 1))) := by
        refine ⟨vs.take (k + 1), by simp [hvl], fun j x hj => ?_, fun j x y h1 h2 => ?_⟩
        · rw [List.getElem?_take] at hj
          split at hj
          · exact (HV.out w (Below.refl _ _)).1 j x hj
          · cases hj
        · rw [List.getElem?_take] at h1 h2
          split at h1
          · rename_i h3
            rw [if_pos h3] at h2
            exact (HV.out w (Below.refl _ _)).2 j x y h1 h2
          · cases h1
      obtain ⟨m, hm⟩ : ∃ m, ls[k] = m := ⟨_, rfl⟩
      rw [hm] at hcell HBZ0 Hrm Hfl
      have Hlt := Lib.hid hlt
      clear hx em hrd hm hBZ0 hrm hnm hcm hlt
      by_cases h100 : (m.length : Int) > 100
      · go_wp2_with fail
        refine (awake_any _ (HT.out.below Hb.out)).mono ?_
        rintro e w9 ⟨rfl, hb9⟩
        have hb10 := bnext Hb.out hb9
        go_wp2_with fail
        go_ret
        exact ⟨rfl, hb10⟩
      · obtain ⟨F, hF⟩ : ∃ F, (ls.take k).flatten = F := ⟨_, rfl⟩
        rw [hF] at HD HTl Hap H100 Hfl ⊢
        clear hF
        have hFl : F.length ≤ 2000 := by have := H100.out; omega
        have HA := Lib.hid (Add_any w.heap.size w.heap.size F.length F u [m] (some ⟨wr.heap.size, 0, none⟩) 1 (wr.alloc (.cells #[.slice Am m.length cm] 22)) (HD.out.below (bal (Below.refl _ _) _)) [.slice Am m.length cm] rfl (one_frw HD.out Hb.out (Nat.le_refl _) HBZ0.out) (by omega) (by simp; omega) (by simp) (HT.out.below (bal Hb.out _)) H2.out)
        have hm1 : [m].flatten = m := by simp
        rw [hm1] at HA
        have HTa := Lib.hid (HTl.out.block (w' := wr.alloc (.cells #[.slice Am m.length cm] 22)) (fun b hb => (bal (Below.refl _ wr) (.cells #[.slice Am m.length cm] 22)).block b (HTl.out.lt b hb).2))
        have Hba := Lib.hid (bal Hb.out (.cells #[.slice Am m.length cm] 22))
        have HDa := Lib.hid (HD.out.below (bal (Below.refl _ wr) (.cells #[.slice Am m.length cm] 22)))
        have Hra := Lib.hid (Hrm.out.alloc (.cells #[.slice Am m.length cm] 22))
        clear hm1
        go_wp2_with fail
        generalize wr.alloc (.cells #[.slice Am m.length cm] 22) = wa at *
        refine HA.out.mono ?_
        rintro e w2 ⟨rfl, u2, hD2, hf2⟩
        have HD2 := Lib.hid hD2
        have hb2 : Below w.heap.size w w2 := hf2.under Hba.out HDa.out (Nat.le_refl _)
        have Hb2 := Lib.hid hb2
        have HT2 : Hid (Tl w2 w.heap.size (.slice A4 F.length c4) (bv F)) := HTa.out.fr hf2.fr (by
          rintro b hb (h | h)
          · exact Hap.out.1 (by rw [hb, h])
          · exact Hap.out.2 b hb h)
        have Hap2 : Hid ((Value.slice A4 F.length c4).ownBlock ≠ some w.heap.size ∧ ∀ b, (Value.slice A4 F.length c4).ownBlock = some b → u2.ownBlock ≠ some b) := by
          refine ⟨Hap.out.1, fun b hb h => ?_⟩
          rcases hf2.nxt with e | ⟨g, e, hg⟩
          · exact Hap.out.2 b hb (e.symm.trans h)
          · rw [e] at h
            injection h with h
            have := (HTa.out.lt b hb).2
            omega
        obtain ⟨hrd, hx⟩ := HV.out w2 hb2
        have hrm2 : Rd w2 Am (bv m) := (HBZ0.out.below hb2).open' rfl |>.2.1
        have hcell2 : w2.cell? ⟨b, o + k, none⟩ = some (.slice Am m.length cm) := by
          obtain ⟨b', o', e', hc'⟩ := hrd k vs[k] (List.getElem?_eq_getElem (by omega))
          injection e' with e'
          injection e' with e1 e2
          subst e1 e2
          rw [hc']
          have h0 := (HV.out wr Hb.out).1 k vs[k] (List.getElem?_eq_getElem (by omega))
          obtain ⟨b', o', e', hc'⟩ := h0
          injection e' with e'
          injection e' with e1 e2
          subst e1 e2
          rw [← hc', hcell]
        have Hrm2 := Lib.hid hrm2
        have HBi : Hid (w.heap.size ≤ w2.heap.size) := hb2.size
        have hdl : (bv F).length + m.length ≤ 140737488355328 := by rw [bv_length]; omega
        clear hD2 hf2 hb2 hrd hx hrm2 HA HD HTl Hap HTa Hba HDa Hra hcell Hrm
        go_wp2_with (at_builtin; refine appT rfl _ _ 22 rfl Tryd.underlying22 info_u8b rfl rfl HT2.out HBi.out rfl Hrm2.out (bv_length m) Hnm.out (bv_one m) hdl ?_; intro v2 w3 hT3 hg3 hat3; obtain ⟨A3, n3, c3, rfl, hn3⟩ := hT3.shape; have HT3 := Lib.hid hT3; have Hg3 := Lib.hid hg3; have Hat3 := Lib.hid hat3; have Hn3 := Lib.hid hn3; clear hT3 hg3 hat3 hn3 hcell2)
        have hn3 : n3 = (F ++ m).length := by have := Hn3.out; rw [this, ← bv_append, bv_length]
        subst hn3
        have HT3' : Hid (Tl w3 w.heap.size (.slice A3 (F ++ m).length c3) (bv (F ++ m))) := by
          show Tl _ _ _ _
          rw [bv_append]; exact HT3.out
        have hfr3 : Fr (fun b => (Value.slice A4 F.length c4).ownBlock = some b) w2 w3 := ⟨Hg3.out.os, Hg3.out.tape, Hg3.out.output, Hg3.out.size, fun k hk hs => Hg3.out.block k hk (fun e => hs e.symm)⟩
        have HD3 : Hid (Dg w3 w.heap.size w.heap.size ((F ++ m).length / 64) (F ++ m) (F ++ m).length u2) := by
          have h := HD2.out.fr hfr3 (by
            rintro b (rfl | h1) h2
            · exact Hap2.out.1 h2
            · exact Hap2.out.2 b h2 h1)
          rw [← List.length_append] at h
          exact h
        have Hap3 : Hid ((Value.slice A3 (F ++ m).length c3).ownBlock ≠ some w.heap.size ∧ ∀ b, (Value.slice A3 (F ++ m).length c3).ownBlock = some b → u2.ownBlock ≠ some b) := by
          refine ⟨fun h => ?_, fun b hb h => ?_⟩
          · rcases Hat3.out with e | ⟨g, e, hg⟩
            · exact Hap2.out.1 (e.symm.trans h)
            · rw [e] at h
              injection h with h
              have := HD2.out.inside
              omega
          · rcases Hat3.out with e | ⟨g, e, hg⟩
            · exact Hap2.out.2 b (e.symm.trans hb) h
            · rw [e] at hb
              injection hb with hb
              have := (HD2.out.tl.lt b h).2
              omega
        have Hb3 : Hid (Below w.heap.size w w3) := hfr3.below Hb2.out (fun b hb => (HT2.out.lt b hb).1)
        have hMl : (F ++ m).length ≤ 100 * (k + 1) := by rw [List.length_append]; have := H100.out; omega
        have HML := Lib.hid hMl
        clear hfr3 Hat3 Hg3 HT3 Hn3 Hap2 HT2 HD2 Hb2 Hrm2 HBi hdl HBZ0 Hnm H100
        obtain ⟨M, hM⟩ : ∃ M, F ++ m = M := ⟨_, rfl⟩
        rw [hM] at Hfl HT3' HD3 Hap3 HML hMl ⊢
        clear hM
        have HSm := Lib.hid (fun W (h : Below w3.heap.size w3 W) => DSum_any w.heap.size w.heap.size M u2 W (HD3.out.below h) (by omega) (HT.out.below (bnext Hb3.out h)))
        have HSm3 := Lib.hid (HSm.out w3 (Below.refl _ _))
        have HLn := Lib.hid (fun W (h : Below w3.heap.size w3 W) => Len_any w.heap.size w.heap.size _ M M.length u2 W (HD3.out.below h))
        obtain ⟨A3', c3', e3, hc3c, -, hrd3, hnil3, -, -⟩ := HT3'.out.form
        have e3' := e3
        injection e3' with e31 e32 e33
        subst e31 e33
        have HZ3 : Hid (BZ w3 (.slice A3 M.length c3) M) := ⟨A3, c3, rfl, by rw [bv_length] at hc3c; exact hc3c, hrd3, fun e => (hnil3 e).2⟩
        have HFS := Lib.hid (fun g W (h : Below w3.heap.size w3 W) (hr : W.heap[g]? = some (Obj.cells #[.slice A3 M.length c3] 22 (0, 0))) => by
          have q := FSum_any [M] (some ⟨g, 0, none⟩) 1 W (BZZ.one (o := #[]) hr (HZ3.out.below h)) (by simp; omega) (by simp) (HT.out.below (bnext Hb3.out h))
          rw [show [M].flatten = M by simp] at q
          exact q)
        have HFT := Lib.hid (fun W (h : Below w3.heap.size w3 W) => FSum_any (ls.take (k + 1)) (some ⟨b, o, none⟩) c W (HL.out.below (bnext Hb3.out h)) (by rw [Hfl.out]; omega) (by rw [List.length_take]; omega) (HT.out.below (bnext Hb3.out h)))
        rw [Hfl.out, show (ls.take (k + 1)).length = k + 1 by rw [List.length_take]; omega] at HFT
        have hwk : IntKind.i64.wrap ((k : Int) + 1) = (k : Int) + 1 := by rw [IntKind.wrap_i64]; omega
        have hk1c : (k : Int) + 1 ≤ c := by have := Hlc.out; omega
        have hk10 : (0 : Int) ≤ (k : Int) + 1 := by omega
        have hk1n : ((k : Int) + 1).toNat = k + 1 := by omega
        have hc0 : ¬ c = 0 := by have := Hlc.out; omega
        have Hk1c := Lib.hid hk1c
        clear hrd3 hnil3 hc3c e3 e32 HL hk1c hk10 hk1n hc0 hwk
        go_upto_region 12 with fail
        go_wp2_with fail
        refine HSm3.out.mono ?_
        rintro e w4 ⟨rfl, hb4⟩
        have Hb4 := Lib.hid hb4
        clear hb4 HSm3
        go_wp2_with (refine wpList_store_new (c := #[.int .u8 0, .int .u8 0, .int .u8 0, .int .u8 0, .int .u8 0, .int .u8 0, .int .u8 0, .int .u8 0, .int .u8 0, .int .u8 0, .int .u8 0, .int .u8 0, .int .u8 0, .int .u8 0, .int .u8 0, .int .u8 0]) (c' := osR (mdS M) 16) rfl 24 _ _ rfl w4.heap.size rfl rfl rfl (osR_info _ 16) (by rw [osR_size]; rfl) (osR_one _ 16) ?_; intro w5 hw5)
        have hO5 : w5.heap[w4.heap.size]? = some (.cells (osR (mdS M) 16) 24 (0, 0)) := by rw [← hw5]; exact heap_alloc_last w4 _
        have HO5 := Lib.hid hO5
        have hb45 : Below w4.heap.size w4 w5 := by rw [← hw5]; exact bal (Below.refl _ _) _
        have Hb5 : Hid (Below w3.heap.size w3 w5) := bnext Hb4.out hb45
        clear hO5 hw5 hb45 Hb4
        generalize w4.heap.size = X at *
        have hwk : IntKind.i64.wrap ((k : Int) + 1) = (k : Int) + 1 := by rw [IntKind.wrap_i64]; omega
        have hk1c : (k : Int) + 1 ≤ c := Hk1c.out
        have hk10 : (0 : Int) ≤ (k : Int) + 1 := by omega
        have hk1n : ((k : Int) + 1).toNat = k + 1 := by omega
        have hc0 : ¬ c = 0 := by omega
        refine wp_region_specs [
          Spec.val (.agg (osR (mdS M) 16)),
          Spec.val (.slice A3 M.length c3),
          Spec.row #[.slice A3 M.length c3] 22 1,
          Spec.val (.agg (osR (mdS M) 16)),
          Spec.val (.bool false),
          Spec.val (.bool false),
          Spec.val (.agg (osR (mdS M) 16)),
          Spec.val (.pointer (some ⟨w.heap.size, 0, none⟩)),
          Spec.val (.agg (osR (mdS M) 16)),
          Spec.val (.bool false),
          Spec.val (.bool false),
          Spec.val (.bool false),
          Spec.val (.pointer (some ⟨w.heap.size, 0, none⟩)),
          Spec.val (.int .i64 (M.length : Nat)),
          Spec.val (.slice A3 M.length c3),
          Spec.val (.int .i64 (M.length : Nat)),
          Spec.val (.bool false),
          Spec.val (.bool false),
          Spec.val (.bool false),
          Spec.val (.agg (osR (mdS M) 16)),
          Spec.val (.slice (some ⟨b, o, none⟩) ls.length c),
          Spec.val (.int .i64 (k : Nat)),
          Spec.val (.int .i64 ((k : Int) + 1)),
          Spec.val (.slice (some ⟨b, o, none⟩) (k + 1) c),
          Spec.val (.agg (osR (mdS M) 16)),
          Spec.val (.bool false),
          Spec.val (.bool false)] w5 (by kernel_rfl) (by repeat (first | exact Below.refl _ _ | assumption | refine below_drewN ?_ _ | refine Below.drew ?_ | refine Below.alloc ?_ (Nat.le_refl _) _ | refine bal ?_ _ | refine bnext ?_ (by assumption))) (n := 76) rfl (by decide +kernel) ⟨?_, ?_, ?_, ?_, ?_, ?_, ?_, ?_, ?_, ?_, ?_, ?_, ?_, ?_, ?_, ?_, ?_, ?_, ?_, ?_, ?_, ?_, ?_, ?_, ?_, ?_, ?_, trivial⟩ ?_
        · intro ac wd hJ hfr hdep
          have s6 : ac.tmps.getD 6 undef = .pointer (some ⟨X, 0, none⟩) := (hfr 6 (by decide)).trans rfl
          have s6' := slot' s6
          clear hfr hdep
          refine if_wanted rfl (fun Q => op_any (fun K hK => ?_))
          refine wp_load_row 24 _ rfl X s6 24 (osR (mdS M) 16) (0, 0) _ (hrow_below HO5.out hJ) Tryd.underlying24 rfl (osR_info _ 16) (hK _ _ rfl hJ (Below.refl _ _))
        · intro ac wd hJ hfr hdep
          have s4 : ac.tmps.getD 4 undef = .slice A3 M.length c3 := (hfr 4 (by decide)).trans rfl
          have s4' := slot' s4
          clear hfr hdep
          refine if_wanted rfl (fun Q => op_any (fun K hK => ?_))
          go_simp
          exact hK _ _ rfl hJ (Below.refl _ _)
        · intro ac wd hJ hfr hdep
          have s49 : ac.tmps.getD 49 undef = .slice A3 M.length c3 := hdep 1 _ 49 (by decide) rfl rfl
          have s49' := slot' s49
          clear hfr hdep
          refine if_wanted rfl (fun Q => op_any (fun K hK => ?_))
          go_simp
          exact hK _ _ ⟨_, rfl, heap_alloc_new wd _⟩ (bal hJ _) (bal (Below.refl _ _) _)
        · intro ac wd hJ hfr hdep
          obtain ⟨g50, s50, b50⟩ := hdep 2 _ 50 (by decide) rfl rfl
          have s50' := slot' s50
          clear hfr hdep
          refine if_wanted rfl (fun Q => op_any (fun K hK => ?_))
          go_simp
          refine (HFS.out g50 _ (bnext Hb5.out hJ) b50).mono ?_
          rintro e wz ⟨rfl, hbz⟩
          exact hK _ _ rfl (bnext hJ hbz) hbz
        · intro ac wd hJ hfr hdep
          have s48 : ac.tmps.getD 48 undef = .agg (osR (mdS M) 16) := hdep 0 _ 48 (by decide) rfl rfl
          have s51 : ac.tmps.getD 51 undef = .agg (osR (mdS M) 16) := hdep 3 _ 51 (by decide) rfl rfl
          have s48' := slot' s48
          have s51' := slot' s51
          clear hfr hdep
          refine if_wanted rfl (fun Q => op_any (fun K hK => ?_))
          refine wp_bin .neq 24 _ _ _ rfl s48 s51 (by kernel_rfl) (neq16 _ _) (hK _ _ rfl hJ (Below.refl _ _))
        · intro ac wd hJ hfr hdep
          have s52 : ac.tmps.getD 52 undef = .bool false := hdep 4 _ 52 (by decide) rfl rfl
          have s52' := slot' s52
          clear hfr hdep
          refine if_wanted rfl (fun Q => op_any (fun K hK => ?_))
          go_simp
          exact hK _ _ rfl hJ (Below.refl _ _)
        · intro ac wd hJ hfr hdep
          have sg : ac.tmps.getD 53 undef = .bool false := hdep 5 _ 53 (by decide) rfl rfl
          have s6 : ac.tmps.getD 6 undef = .pointer (some ⟨X, 0, none⟩) := (hfr 6 (by decide)).trans rfl
          have s6' := slot' s6
          clear hfr hdep
          refine if_wanted (wanted_yes rfl rfl rfl sg) (fun Q => op_any (fun K hK => ?_))
          refine wp_load_row 24 _ rfl X s6 24 (osR (mdS M) 16) (0, 0) _ (hrow_below HO5.out hJ) Tryd.underlying24 rfl (osR_info _ 16) (hK _ _ rfl hJ (Below.refl _ _))
        · intro ac wd hJ hfr hdep
          have sg : ac.tmps.getD 53 undef = .bool false := hdep 5 _ 53 (by decide) rfl rfl
          have s3 : ac.tmps.getD 3 undef = .pointer (some ⟨w.heap.size, 0, none⟩) := (hfr 3 (by decide)).trans rfl
          have s3' := slot' s3
          clear hfr hdep
          refine if_wanted (wanted_yes rfl rfl rfl sg) (fun Q => op_any (fun K hK => ?_))
          go_simp
          exact hK _ _ rfl hJ (Below.refl _ _)
        · intro ac wd hJ hfr hdep
          have sg : ac.tmps.getD 53 undef = .bool false := hdep 5 _ 53 (by decide) rfl rfl
          have s55 : ac.tmps.getD 55 undef = .pointer (some ⟨w.heap.size, 0, none⟩) := hdep 7 _ 55 (by decide) rfl rfl
          have s55' := slot' s55
          clear hfr hdep
          refine if_wanted (wanted_yes rfl rfl rfl sg) (fun Q => op_any (fun K hK => ?_))
          go_simp
          refine (HSm.out _ (bnext Hb5.out hJ)).mono ?_
          rintro e wz ⟨rfl, hbz⟩
          exact hK _ _ rfl (bnext hJ hbz) hbz
        · intro ac wd hJ hfr hdep
          have sg : ac.tmps.getD 53 undef = .bool false := hdep 5 _ 53 (by decide) rfl rfl
          have s54 : ac.tmps.getD 54 undef = .agg (osR (mdS M) 16) := hdep 6 _ 54 (by decide) rfl rfl
          have s56 : ac.tmps.getD 56 undef = .agg (osR (mdS M) 16) := hdep 8 _ 56 (by decide) rfl rfl
          have s54' := slot' s54
          have s56' := slot' s56
          clear hfr hdep
          refine if_wanted (wanted_yes rfl rfl rfl sg) (fun Q => op_any (fun K hK => ?_))
          refine wp_bin .neq 24 _ _ _ rfl s54 s56 (by kernel_rfl) (neq16 _ _) (hK _ _ rfl hJ (Below.refl _ _))
        · intro ac wd hJ hfr hdep
          have s53 : ac.tmps.getD 53 undef = .bool false := hdep 5 _ 53 (by decide) rfl rfl
          have s57 : ac.tmps.getD 57 undef = .bool false := hdep 9 _ 57 (by decide) rfl rfl
          have s53' := slot' s53
          have s57' := slot' s57
          clear hfr hdep
          refine if_wanted rfl (fun Q => op_any (fun K hK => ?_))
          go_simp
          exact hK _ _ rfl hJ (Below.refl _ _)
        · intro ac wd hJ hfr hdep
          have s58 : ac.tmps.getD 58 undef = .bool false := hdep 10 _ 58 (by decide) rfl rfl
          have s58' := slot' s58
          clear hfr hdep
          refine if_wanted rfl (fun Q => op_any (fun K hK => ?_))
          go_simp
          exact hK _ _ rfl hJ (Below.refl _ _)
        · intro ac wd hJ hfr hdep
          have sg : ac.tmps.getD 59 undef = .bool false := hdep 11 _ 59 (by decide) rfl rfl
          have s3 : ac.tmps.getD 3 undef = .pointer (some ⟨w.heap.size, 0, none⟩) := (hfr 3 (by decide)).trans rfl
          have s3' := slot' s3
          clear hfr hdep
          refine if_wanted (wanted_yes rfl rfl rfl sg) (fun Q => op_any (fun K hK => ?_))
          go_simp
          exact hK _ _ rfl hJ (Below.refl _ _)
        · intro ac wd hJ hfr hdep
          have sg : ac.tmps.getD 59 undef = .bool false := hdep 11 _ 59 (by decide) rfl rfl
          have s60 : ac.tmps.getD 60 undef = .pointer (some ⟨w.heap.size, 0, none⟩) := hdep 12 _ 60 (by decide) rfl rfl
          have s60' := slot' s60
          clear hfr hdep
          refine if_wanted (wanted_yes rfl rfl rfl sg) (fun Q => op_any (fun K hK => ?_))
          go_simp
          refine (HLn.out _ (bnext Hb5.out hJ)).mono ?_
          rintro e wz ⟨rfl, rfl⟩
          exact hK _ _ rfl hJ (Below.refl _ _)
        · intro ac wd hJ hfr hdep
          have sg : ac.tmps.getD 59 undef = .bool false := hdep 11 _ 59 (by decide) rfl rfl
          have s4 : ac.tmps.getD 4 undef = .slice A3 M.length c3 := (hfr 4 (by decide)).trans rfl
          have s4' := slot' s4
          clear hfr hdep
          refine if_wanted (wanted_yes rfl rfl rfl sg) (fun Q => op_any (fun K hK => ?_))
          go_simp
          exact hK _ _ rfl hJ (Below.refl _ _)
        · intro ac wd hJ hfr hdep
          have sg : ac.tmps.getD 59 undef = .bool false := hdep 11 _ 59 (by decide) rfl rfl
          have s62 : ac.tmps.getD 62 undef = .slice A3 M.length c3 := hdep 14 _ 62 (by decide) rfl rfl
          have s62' := slot' s62
          clear hfr hdep
          refine if_wanted (wanted_yes rfl rfl rfl sg) (fun Q => op_any (fun K hK => ?_))
          go_simp
          exact hK _ _ rfl hJ (Below.refl _ _)
        · intro ac wd hJ hfr hdep
          have sg : ac.tmps.getD 59 undef = .bool false := hdep 11 _ 59 (by decide) rfl rfl
          have s61 : ac.tmps.getD 61 undef = .int .i64 (M.length : Nat) := hdep 13 _ 61 (by decide) rfl rfl
          have s63 : ac.tmps.getD 63 undef = .int .i64 (M.length : Nat) := hdep 15 _ 63 (by decide) rfl rfl
          have s61' := slot' s61
          have s63' := slot' s63
          clear hfr hdep
          refine if_wanted (wanted_yes rfl rfl rfl sg) (fun Q => op_any (fun K hK => ?_))
          go_simp
          exact hK _ _ rfl hJ (Below.refl _ _)
        · intro ac wd hJ hfr hdep
          have s59 : ac.tmps.getD 59 undef = .bool false := hdep 11 _ 59 (by decide) rfl rfl
          have s64 : ac.tmps.getD 64 undef = .bool false := hdep 16 _ 64 (by decide) rfl rfl
          have s59' := slot' s59
          have s64' := slot' s64
          clear hfr hdep
          refine if_wanted rfl (fun Q => op_any (fun K hK => ?_))
          go_simp
          exact hK _ _ rfl hJ (Below.refl _ _)
        · intro ac wd hJ hfr hdep
          have s65 : ac.tmps.getD 65 undef = .bool false := hdep 17 _ 65 (by decide) rfl rfl
          have s65' := slot' s65
          clear hfr hdep
          refine if_wanted rfl (fun Q => op_any (fun K hK => ?_))
          go_simp
          exact hK _ _ rfl hJ (Below.refl _ _)
        · intro ac wd hJ hfr hdep
          have sg : ac.tmps.getD 66 undef = .bool false := hdep 18 _ 66 (by decide) rfl rfl
          have s6 : ac.tmps.getD 6 undef = .pointer (some ⟨X, 0, none⟩) := (hfr 6 (by decide)).trans rfl
          have s6' := slot' s6
          clear hfr hdep
          refine if_wanted (wanted_yes rfl rfl rfl sg) (fun Q => op_any (fun K hK => ?_))
          refine wp_load_row 24 _ rfl X s6 24 (osR (mdS M) 16) (0, 0) _ (hrow_below HO5.out hJ) Tryd.underlying24 rfl (osR_info _ 16) (hK _ _ rfl hJ (Below.refl _ _))
        · intro ac wd hJ hfr hdep
          have sg : ac.tmps.getD 66 undef = .bool false := hdep 18 _ 66 (by decide) rfl rfl
          have s0 : ac.tmps.getD 0 undef = .slice (some ⟨b, o, none⟩) ls.length c := (hfr 0 (by decide)).trans rfl
          have s0' := slot' s0
          clear hfr hdep
          refine if_wanted (wanted_yes rfl rfl rfl sg) (fun Q => op_any (fun K hK => ?_))
          go_simp
          exact hK _ _ rfl hJ (Below.refl _ _)
        · intro ac wd hJ hfr hdep
          have sg : ac.tmps.getD 66 undef = .bool false := hdep 18 _ 66 (by decide) rfl rfl
          have s5 : ac.tmps.getD 5 undef = .int .i64 (k : Nat) := (hfr 5 (by decide)).trans rfl
          have s5' := slot' s5
          clear hfr hdep
          refine if_wanted (wanted_yes rfl rfl rfl sg) (fun Q => op_any (fun K hK => ?_))
          go_simp
          exact hK _ _ rfl hJ (Below.refl _ _)
        · intro ac wd hJ hfr hdep
          have sg : ac.tmps.getD 66 undef = .bool false := hdep 18 _ 66 (by decide) rfl rfl
          have s69 : ac.tmps.getD 69 undef = .int .i64 (k : Nat) := hdep 21 _ 69 (by decide) rfl rfl
          have s69' := slot' s69
          clear hfr hdep
          refine if_wanted (wanted_yes rfl rfl rfl sg) (fun Q => op_any (fun K hK => ?_))
          go_simp
          exact hK _ _ rfl hJ (Below.refl _ _)
        · intro ac wd hJ hfr hdep
          have sg : ac.tmps.getD 66 undef = .bool false := hdep 18 _ 66 (by decide) rfl rfl
          have s68 : ac.tmps.getD 68 undef = .slice (some ⟨b, o, none⟩) ls.length c := hdep 20 _ 68 (by decide) rfl rfl
          have s70 : ac.tmps.getD 70 undef = .int .i64 ((k : Int) + 1) := hdep 22 _ 70 (by decide) rfl rfl
          have s68' := slot' s68
          have s70' := slot' s70
          clear hfr hdep
          refine if_wanted (wanted_yes rfl rfl rfl sg) (fun Q => op_any (fun K hK => ?_))
          go_simp
          exact hK _ _ rfl hJ (Below.refl _ _)
        · intro ac wd hJ hfr hdep
          have sg : ac.tmps.getD 66 undef = .bool false := hdep 18 _ 66 (by decide) rfl rfl
          have s71 : ac.tmps.getD 71 undef = .slice (some ⟨b, o, none⟩) (k + 1) c := hdep 23 _ 71 (by decide) rfl rfl
          have s71' := slot' s71
          clear hfr hdep
          refine if_wanted (wanted_yes rfl rfl rfl sg) (fun Q => op_any (fun K hK => ?_))
          go_simp
          refine (HFT.out _ (bnext Hb5.out hJ)).mono ?_
          rintro e wz ⟨rfl, hbz⟩
          exact hK _ _ rfl (bnext hJ hbz) hbz
        · intro ac wd hJ hfr hdep
          have sg : ac.tmps.getD 66 undef = .bool false := hdep 18 _ 66 (by decide) rfl rfl
          have s67 : ac.tmps.getD 67 undef = .agg (osR (mdS M) 16) := hdep 19 _ 67 (by decide) rfl rfl
          have s72 : ac.tmps.getD 72 undef = .agg (osR (mdS M) 16) := hdep 24 _ 72 (by decide) rfl rfl
          have s67' := slot' s67
          have s72' := slot' s72
          clear hfr hdep
          refine if_wanted (wanted_yes rfl rfl rfl sg) (fun Q => op_any (fun K hK => ?_))
          refine wp_bin .neq 24 _ _ _ rfl s67 s72 (by kernel_rfl) (neq16 _ _) (hK _ _ rfl hJ (Below.refl _ _))
        · intro ac wd hJ hfr hdep
          have s66 : ac.tmps.getD 66 undef = .bool false := hdep 18 _ 66 (by decide) rfl rfl
          have s73 : ac.tmps.getD 73 undef = .bool false := hdep 25 _ 73 (by decide) rfl rfl
          have s66' := slot' s66
          have s73' := slot' s73
          clear hfr hdep
          refine if_wanted rfl (fun Q => op_any (fun K hK => ?_))
          go_simp
          exact hK _ _ rfl hJ (Below.refl _ _)
        intro f w' hJ hR
        have e0 : f 0 = .agg (osR (mdS M) 16) := hR 0 (by decide)
        have e1 : f 1 = .slice A3 M.length c3 := hR 1 (by decide)
        obtain ⟨g2', e2, b2'⟩ := hR 2 (by decide)
        have e3 : f 3 = .agg (osR (mdS M) 16) := hR 3 (by decide)
        have e4 : f 4 = .bool false := hR 4 (by decide)
        have e5 : f 5 = .bool false := hR 5 (by decide)
        have e6 : f 6 = .agg (osR (mdS M) 16) := hR 6 (by decide)
        have e7 : f 7 = .pointer (some ⟨w.heap.size, 0, none⟩) := hR 7 (by decide)
        have e8 : f 8 = .agg (osR (mdS M) 16) := hR 8 (by decide)
        have e9 : f 9 = .bool false := hR 9 (by decide)
        have e10 : f 10 = .bool false := hR 10 (by decide)
        have e11 : f 11 = .bool false := hR 11 (by decide)
        have e12 : f 12 = .pointer (some ⟨w.heap.size, 0, none⟩) := hR 12 (by decide)
        have e13 : f 13 = .int .i64 (M.length : Nat) := hR 13 (by decide)
        have e14 : f 14 = .slice A3 M.length c3 := hR 14 (by decide)
        have e15 : f 15 = .int .i64 (M.length : Nat) := hR 15 (by decide)
        have e16 : f 16 = .bool false := hR 16 (by decide)
        have e17 : f 17 = .bool false := hR 17 (by decide)
        have e18 : f 18 = .bool false := hR 18 (by decide)
        have e19 : f 19 = .agg (osR (mdS M) 16) := hR 19 (by decide)
        have e20 : f 20 = .slice (some ⟨b, o, none⟩) ls.length c := hR 20 (by decide)
        have e21 : f 21 = .int .i64 (k : Nat) := hR 21 (by decide)
        have e22 : f 22 = .int .i64 ((k : Int) + 1) := hR 22 (by decide)
        have e23 : f 23 = .slice (some ⟨b, o, none⟩) (k + 1) c := hR 23 (by decide)
        have e24 : f 24 = .agg (osR (mdS M) 16) := hR 24 (by decide)
        have e25 : f 25 = .bool false := hR 25 (by decide)
        have e26 : f 26 = .bool false := hR 26 (by decide)
        clear hR
        simp only [finA, Act.put, List.setIfInBounds_toArray, List.set_cons_succ, List.set_cons_zero, Nat.reduceAdd, e0, e1, e2, e3, e4, e5, e6, e7, e8, e9, e10, e11, e12, e13, e14, e15, e16, e17, e18, e19, e20, e21, e22, e23, e24, e25, e26]
        clear e0 e1 e2 e3 e4 e5 e6 e7 e8 e9 e10 e11 e12 e13 e14 e15 e16 e17 e18 e19 e20 e21 e22 e23 e24 e25 e26
        go_wp2_with fail
        go_roundw
        case rel =>
          refine ⟨k + 1, u2, A3, c3, by omega, by go_num, ?_, ?_, ?_, ?_, ?_, ?_⟩
          · rw [Hfl.out]
          · show Dg _ _ _ _ _ _ _
            rw [Hfl.out]; exact HD3.out.below (bnext Hb5.out hJ)
          · show Tl _ _ _ _
            rw [Hfl.out]; exact HT3'.out.block (fun q hq => (bnext Hb5.out hJ).block q (HT3'.out.lt q hq).2)
          · show _ ∧ _
            rw [Hfl.out]; exact Hap3.out
          · exact bnext Hb3.out (bnext Hb5.out hJ)
          · show _ ≤ _
            rw [Hfl.out]; exact HML.out
        case measure => simp [intOf] <;> omega
    · obtain rfl : k = ls.length := by omega
      go_wp2_with fail
      refine (awake_any _ (HT.out.below Hb.out)).mono ?_
      rintro e w9 ⟨rfl, hb9⟩
      have hb10 := bnext Hb.out hb9
      go_wp2_with fail
      go_ret
      exact ⟨rfl, hb10⟩
end Go.Proofs.YtibhhebfenkeaaaDoor
