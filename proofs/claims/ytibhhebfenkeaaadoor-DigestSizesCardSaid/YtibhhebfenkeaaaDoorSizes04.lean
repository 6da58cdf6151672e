/-
  jetsamlaw04.DigestSizes: its walk.
-/
import Derived.Test.YtibhhebfenkeaaaDoorSizL04
namespace Go.Proofs.YtibhhebfenkeaaaDoor
open Go.RowKit

set_option maxRecDepth 100000 in
set_option maxHeartbeats 8000000 in
theorem sizes_walk (depth at0 : Int) (l r : List Int) (A B : Option Addr) (c d : Nat) (w : World) (hr1 : Rd w A (zv l)) (hr2 : Rd w B (zv r)) (hc1 : l.length ≤ c) (hc2 : r.length ≤ d) (ht : Tabs w) :
    Calls Tryd.prog 5 #[.int .i64 depth, .agg #[.slice A l.length c, .slice B r.length d], .int .i64 at0] w fun e w' => e = .returned (.bool true) ∧ Below w.heap.size w w' := by
  have HT := Lib.hid ht
  have Hb1 : Hid (Below w.heap.size w (w.alloc (.cells #[.slice A l.length c, .slice B r.length d] 37))) := bal (Below.refl _ _) _
  have Hr1 := Lib.hid (hr1.alloc (.cells #[.slice A l.length c, .slice B r.length d] 37))
  have Hr2 := Lib.hid (hr2.alloc (.cells #[.slice A l.length c, .slice B r.length d] 37))
  clear hr1 hr2 ht
  obtain ⟨n, hn⟩ : ∃ n, l.length = n := ⟨_, rfl⟩
  obtain ⟨m, hm⟩ : ∃ m, r.length = m := ⟨_, rfl⟩
  rw [hn] at hc1 Hb1 Hr1 Hr2 ⊢
  rw [hm] at hc2 Hb1 Hr1 Hr2 ⊢
  have Hn := Lib.hid hn
  have Hm := Lib.hid hm
  clear hn hm
  by_cases h1 : (n : Int) > 40
  · go_enter Tryd.func5, Tryd.ntmps5
    go_wp2_with fail
    refine (awake_any _ (HT.out.below Hb1.out)).mono ?_
    rintro e w9 ⟨rfl, hb9⟩
    have hb10 := bnext Hb1.out hb9
    go_wp2_with fail
    go_ret
    exact ⟨rfl, hb10⟩
  by_cases h2 : n = m
  case neg =>
    have h2' : ¬ (n : Int) = m := by omega
    go_enter Tryd.func5, Tryd.ntmps5
    go_wp2_with fail
    refine (awake_any _ (HT.out.below Hb1.out)).mono ?_
    rintro e w9 ⟨rfl, hb9⟩
    have hb10 := bnext Hb1.out hb9
    go_wp2_with fail
    go_ret
    exact ⟨rfl, hb10⟩
  subst h2
  by_cases h3 : at0 < 0
  · go_enter Tryd.func5, Tryd.ntmps5
    go_wp2_with fail
    refine (awake_any _ (HT.out.below Hb1.out)).mono ?_
    rintro e w9 ⟨rfl, hb9⟩
    have hb10 := bnext Hb1.out hb9
    go_wp2_with fail
    go_ret
    exact ⟨rfl, hb10⟩
  by_cases h4 : at0 > (n : Int)
  · go_enter Tryd.func5, Tryd.ntmps5
    go_wp2_with fail
    refine (awake_any _ (HT.out.below Hb1.out)).mono ?_
    rintro e w9 ⟨rfl, hb9⟩
    have hb10 := bnext Hb1.out hb9
    go_wp2_with fail
    go_ret
    exact ⟨rfl, hb10⟩
  obtain ⟨a, rfl⟩ : ∃ a : Nat, at0 = a := ⟨at0.toNat, by omega⟩
  have ha0 : (0 : Int) ≤ (a : Int) := by omega
  have hac : (a : Int) ≤ c := by omega
  have had : (a : Int) ≤ d := by omega
  have han : (a : Int) ≤ n := by omega
  obtain ⟨A2, hA2⟩ : ∃ A2, (if c = a then A else Option.map (fun x => x.add a) A) = A2 := ⟨_, rfl⟩
  obtain ⟨B2, hB2⟩ : ∃ B2, (if d = a then B else Option.map (fun x => x.add a) B) = B2 := ⟨_, rfl⟩
  have hn40 : n ≤ 40 := by omega
  have Hall := allX_parts l r a (Hn.out.trans Hm.out.symm)
  have Hlen2 := outX_length depth.toNat (allX [l, r])
  rw [allX_two, Hn.out] at Hlen2
  have Hcat : outX depth.toNat (allX [l, r]) = outX depth.toNat (allX [l.take a, r.take a]) ++ outX depth.toNat (allX [l.drop a, r.drop a]) := by
    rw [Hall]; unfold outX; rw [List.flatMap_append]
  have Hiff0 : ((4 ≤ depth ∧ depth ≤ 32) ∧ ∀ z ∈ allX [l, r], okX depth.toNat z) ↔ ((4 ≤ depth ∧ depth ≤ 32) ∧ ∀ z ∈ allX [l.take a, r.take a], okX depth.toNat z) ∧ ((4 ≤ depth ∧ depth ≤ 32) ∧ ∀ z ∈ allX [l.drop a, r.drop a], okX depth.toNat z) := by
    rw [Hall]
    constructor
    · rintro ⟨h1, h2⟩
      exact ⟨⟨h1, fun z hz => h2 z (List.mem_append_left _ hz)⟩, ⟨h1, fun z hz => h2 z (List.mem_append_right _ hz)⟩⟩
    · rintro ⟨⟨h1, h2⟩, ⟨-, h3⟩⟩
      exact ⟨h1, fun z hz => (List.mem_append.1 hz).elim (h2 z) (h3 z)⟩
  have Hdep : ((4 ≤ depth ∧ depth ≤ 32) ∧ ∀ z ∈ allX [l, r], okX depth.toNat z) → 4 ≤ depth ∧ depth ≤ 32 := fun h => h.1
  obtain ⟨C1, hC1⟩ : ∃ C, ((4 ≤ depth ∧ depth ≤ 32) ∧ ∀ z ∈ allX [l, r], okX depth.toNat z) = C := ⟨_, rfl⟩
  obtain ⟨C2, hC2⟩ : ∃ C, ((4 ≤ depth ∧ depth ≤ 32) ∧ ∀ z ∈ allX [l.take a, r.take a], okX depth.toNat z) = C := ⟨_, rfl⟩
  obtain ⟨C3, hC3⟩ : ∃ C, ((4 ≤ depth ∧ depth ≤ 32) ∧ ∀ z ∈ allX [l.drop a, r.drop a], okX depth.toNat z) = C := ⟨_, rfl⟩
  obtain ⟨X1, hX1⟩ : ∃ X, outX depth.toNat (allX [l, r]) = X := ⟨_, rfl⟩
  obtain ⟨X2, hX2⟩ : ∃ X, outX depth.toNat (allX [l.take a, r.take a]) = X := ⟨_, rfl⟩
  obtain ⟨X3, hX3⟩ : ∃ X, outX depth.toNat (allX [l.drop a, r.drop a]) = X := ⟨_, rfl⟩
  rw [hX1] at Hlen2
  rw [hX1, hX2, hX3] at Hcat
  rw [hC1, hC2, hC3] at Hiff0
  rw [hC1] at Hdep
  have Hlen2 := Lib.hid Hlen2
  have Hcat := Lib.hid Hcat
  have Hiff := Lib.hid Hiff0
  have Hdep := Lib.hid Hdep
  have HR := Lib.hid (fun W (hbw : Below (w.alloc (.cells #[.slice A n c, .slice B n d] 37)).heap.size (w.alloc (.cells #[.slice A n c, .slice B n d] 37)) W) => (⟨Hr1.out.below hbw, Hr2.out.below hbw⟩ : Rd W A (zv l) ∧ Rd W B (zv r)))
  have hb12 := bal (Below.refl _ (w.alloc (.cells #[.slice A n c, .slice B n d] 37))) (.cells #[.slice A n c, .slice B n d] 32)
  have HD1 := Lib.hid (DB2 depth l r n Hn.out Hm.out A B c d hc1 hc2 hn40 C1 X1 hC1 hX1 (w.heap.size + 1) ((w.alloc (.cells #[.slice A n c, .slice B n d] 37)).alloc (.cells #[.slice A n c, .slice B n d] 32)) (by rw [← World.size_alloc w (.cells #[.slice A n c, .slice B n d] 37)]; exact heap_alloc_last _ _) (Hr1.out.below hb12) (Hr2.out.below hb12))
  have HD2 := Lib.hid (fun g W (hrow : W.heap[g]? = some (Obj.cells #[.slice A a c, .slice B a d] 32 (0, 0))) (hbw : Below (w.alloc (.cells #[.slice A n c, .slice B n d] 37)).heap.size (w.alloc (.cells #[.slice A n c, .slice B n d] 37)) W) => DB2 depth (l.take a) (r.take a) a (by rw [List.length_take, Hn.out]; omega) (by rw [List.length_take, Hm.out]; omega) A B c d (by omega) (by omega) (by omega) C2 X2 hC2 hX2 g W hrow (by have q := (HR.out W hbw).1.take a; unfold zv at *; rw [List.map_take]; exact q) (by have q := (HR.out W hbw).2.take a; unfold zv at *; rw [List.map_take]; exact q))
  have HD3 := Lib.hid (fun g W (hrow : W.heap[g]? = some (Obj.cells #[.slice A2 (n - a) (c - a), .slice B2 (n - a) (d - a)] 32 (0, 0))) (hbw : Below (w.alloc (.cells #[.slice A n c, .slice B n d] 37)).heap.size (w.alloc (.cells #[.slice A n c, .slice B n d] 37)) W) => DB2 depth (l.drop a) (r.drop a) (n - a) (by rw [List.length_drop, Hn.out]) (by rw [List.length_drop, Hm.out]) A2 B2 (c - a) (d - a) (by omega) (by omega) (by omega) C3 X3 hC3 hX3 g W hrow (by have q := (HR.out W hbw).1.drop a c (by rw [zv_length, Hn.out]; exact hc1); rw [hA2] at q; unfold zv at *; rw [List.map_drop]; exact q) (by have q := (HR.out W hbw).2.drop a d (by rw [zv_length, Hm.out]; exact hc2); rw [hB2] at q; unfold zv at *; rw [List.map_drop]; exact q))
  have Hb12 := Lib.hid hb12
  clear Hr1 Hr2 HR hC1 hC2 hC3 hX1 hX2 hX3 Hall Hiff0 hb12 Hn Hm
  go_enter Tryd.func5, Tryd.ntmps5
  go_wp2_with fail
  generalize w.alloc (.cells #[.slice A n c, .slice B n d] 37) = w1 at *
  refine HD1.out.mono ?_
  rintro e w2 ⟨Aa, La, ca, k1, rfl, hk1, hz1, ho1, hb2⟩
  have Hk1 := Lib.hid hk1
  have Hz1 := Lib.hid hz1
  have Ho1 := Lib.hid (fun h => (ho1 h).1)
  have Ht1 := Lib.hid (fun h => (ho1 h).2)
  have H12 := Lib.hid (bnext Hb12.out hb2)
  clear hk1 hz1 ho1 hb2 HD1 Hb12
  go_wp2_with fail
  refine wp_region_specs [
    Spec.val (.int .i64 depth),
    Spec.val (.slice A n c),
    Spec.val (.int .i64 (a : Nat)),
    Spec.val (.slice A a c),
    Spec.val (.slice B n d),
    Spec.val (.int .i64 (a : Nat)),
    Spec.val (.slice B a d),
    Spec.row #[.slice A a c, .slice B a d] 32 2,
    TuP w2.heap.size C2 X2,
    TuP w2.heap.size C2 X2,
    SlP w2.heap.size C2 X2,
    KnP C2,
    SlP w2.heap.size C2 X2,
    KnP C2] w2 (by kernel_rfl) (by repeat (first | exact Below.refl _ _ | assumption | refine below_drewN ?_ _ | refine Below.drew ?_ | refine Below.alloc ?_ (Nat.le_refl _) _ | refine bal ?_ _ | refine bnext ?_ (by assumption))) (n := 117) rfl (by decide +kernel) ⟨?_, ?_, ?_, ?_, ?_, ?_, ?_, ?_, ?_, ?_, ?_, ?_, ?_, ?_, trivial⟩ ?_
  · intro ac wd hJ hfr hdep
    have s0 : ac.tmps.getD 0 undef = .int .i64 depth := (hfr 0 (by decide)).trans rfl
    have s0' := slot' s0
    clear hfr hdep
    refine if_wanted rfl (fun Q => op_any (fun K hK => ?_))
    go_simp
    exact hK _ _ rfl hJ (Below.refl _ _)
  · intro ac wd hJ hfr hdep
    have s7 : ac.tmps.getD 7 undef = .slice A n c := (hfr 7 (by decide)).trans rfl
    have s7' := slot' s7
    clear hfr hdep
    refine if_wanted rfl (fun Q => op_any (fun K hK => ?_))
    go_simp
    exact hK _ _ rfl hJ (Below.refl _ _)
  · intro ac wd hJ hfr hdep
    have s2 : ac.tmps.getD 2 undef = .int .i64 (a : Nat) := (hfr 2 (by decide)).trans rfl
    have s2' := slot' s2
    clear hfr hdep
    refine if_wanted rfl (fun Q => op_any (fun K hK => ?_))
    go_simp
    exact hK _ _ rfl hJ (Below.refl _ _)
  · intro ac wd hJ hfr hdep
    have s50 : ac.tmps.getD 50 undef = .slice A n c := hdep 1 _ 50 (by decide) rfl rfl
    have s51 : ac.tmps.getD 51 undef = .int .i64 (a : Nat) := hdep 2 _ 51 (by decide) rfl rfl
    have s50' := slot' s50
    have s51' := slot' s51
    clear hfr hdep
    refine if_wanted rfl (fun Q => op_any (fun K hK => ?_))
    go_simp
    exact hK _ _ rfl hJ (Below.refl _ _)
  · intro ac wd hJ hfr hdep
    have s8 : ac.tmps.getD 8 undef = .slice B n d := (hfr 8 (by decide)).trans rfl
    have s8' := slot' s8
    clear hfr hdep
    refine if_wanted rfl (fun Q => op_any (fun K hK => ?_))
    go_simp
    exact hK _ _ rfl hJ (Below.refl _ _)
  · intro ac wd hJ hfr hdep
    have s2 : ac.tmps.getD 2 undef = .int .i64 (a : Nat) := (hfr 2 (by decide)).trans rfl
    have s2' := slot' s2
    clear hfr hdep
    refine if_wanted rfl (fun Q => op_any (fun K hK => ?_))
    go_simp
    exact hK _ _ rfl hJ (Below.refl _ _)
  · intro ac wd hJ hfr hdep
    have s53 : ac.tmps.getD 53 undef = .slice B n d := hdep 4 _ 53 (by decide) rfl rfl
    have s54 : ac.tmps.getD 54 undef = .int .i64 (a : Nat) := hdep 5 _ 54 (by decide) rfl rfl
    have s53' := slot' s53
    have s54' := slot' s54
    clear hfr hdep
    refine if_wanted rfl (fun Q => op_any (fun K hK => ?_))
    go_simp
    exact hK _ _ rfl hJ (Below.refl _ _)
  · intro ac wd hJ hfr hdep
    have s52 : ac.tmps.getD 52 undef = .slice A a c := hdep 3 _ 52 (by decide) rfl rfl
    have s55 : ac.tmps.getD 55 undef = .slice B a d := hdep 6 _ 55 (by decide) rfl rfl
    have s52' := slot' s52
    have s55' := slot' s55
    clear hfr hdep
    refine if_wanted rfl (fun Q => op_any (fun K hK => ?_))
    go_simp
    exact hK _ _ ⟨_, rfl, heap_alloc_new wd _⟩ (bal hJ _) (bal (Below.refl _ _) _)
  · intro ac wd hJ hfr hdep
    have s49 : ac.tmps.getD 49 undef = .int .i64 depth := hdep 0 _ 49 (by decide) rfl rfl
    obtain ⟨g56, s56, b56⟩ := hdep 7 _ 56 (by decide) rfl rfl
    have s49' := slot' s49
    have s56' := slot' s56
    clear hfr hdep
    refine if_wanted rfl (fun Q => op_any (fun K hK => ?_))
    go_simp
    refine (HD2.out g56 _ b56 (bnext H12.out hJ)).mono ?_
    rintro e wz ⟨Av, Lv, cv, kv, rfl, q1, q2, q3, hbz⟩
    exact hK _ _ ⟨Av, Lv, cv, kv, rfl, q1, q2, fun h => ⟨(q3 h).1, (q3 h).2.less hJ.size⟩⟩ (bnext hJ hbz) hbz
  · intro ac wd hJ hfr hdep
    obtain ⟨A57, L57, c57, k57, s57, hk57, hz57, ho57⟩ := hdep 8 _ 57 (by decide) rfl rfl
    have s57' := slot' s57
    clear hfr hdep
    refine if_wanted rfl (fun Q => op_any (fun K hK => ?_))
    go_simp
    exact hK _ _ ⟨_, _, _, _, rfl, hk57, hz57, ho57⟩ hJ (Below.refl _ _)
  · intro ac wd hJ hfr hdep
    obtain ⟨A48, L48, c48, k48, s48, hk48, hz48, ho48⟩ := hdep 9 _ 48 (by decide) rfl rfl
    have s48' := slot' s48
    clear hfr hdep
    refine if_wanted rfl (fun Q => op_any (fun K hK => ?_))
    go_simp
    exact hK _ _ ⟨_, _, _, rfl, hz48, ho48⟩ hJ (Below.refl _ _)
  · intro ac wd hJ hfr hdep
    obtain ⟨A48, L48, c48, k48, s48, hk48, hz48, ho48⟩ := hdep 9 _ 48 (by decide) rfl rfl
    have s48' := slot' s48
    clear hfr hdep
    refine if_wanted rfl (fun Q => op_any (fun K hK => ?_))
    go_simp
    exact hK _ _ ⟨_, rfl, hk48⟩ hJ (Below.refl _ _)
  · intro ac wd hJ hfr hdep
    obtain ⟨A58, L58, c58, s58, hz58, ho58⟩ := hdep 10 _ 58 (by decide) rfl rfl
    have s58' := slot' s58
    clear hfr hdep
    refine if_wanted rfl (fun Q => op_any (fun K hK => ?_))
    go_simp
    exact hK _ _ ⟨_, _, _, rfl, hz58, ho58⟩ hJ (Below.refl _ _)
  · intro ac wd hJ hfr hdep
    obtain ⟨k59, s59, hk59⟩ := hdep 11 _ 59 (by decide) rfl rfl
    have s59' := slot' s59
    clear hfr hdep
    refine if_wanted rfl (fun Q => op_any (fun K hK => ?_))
    go_simp
    exact hK _ _ ⟨_, rfl, hk59⟩ hJ (Below.refl _ _)
  intro f6 w3 hJ3 hR
  have e0 : f6 0 = .int .i64 depth := hR 0 (by decide)
  have e1 : f6 1 = .slice A n c := hR 1 (by decide)
  have e2 : f6 2 = .int .i64 (a : Nat) := hR 2 (by decide)
  have e3 : f6 3 = .slice A a c := hR 3 (by decide)
  have e4 : f6 4 = .slice B n d := hR 4 (by decide)
  have e5 : f6 5 = .int .i64 (a : Nat) := hR 5 (by decide)
  have e6 : f6 6 = .slice B a d := hR 6 (by decide)
  obtain ⟨g7', e7, b7'⟩ := hR 7 (by decide)
  obtain ⟨A8', L8', c8', k8', e8, hk8', hz8', ho8'⟩ := hR 8 (by decide)
  obtain ⟨A9', L9', c9', k9', e9, hk9', hz9', ho9'⟩ := hR 9 (by decide)
  obtain ⟨A10', L10', c10', e10, hz10', ho10'⟩ := hR 10 (by decide)
  obtain ⟨k11', e11, hk11'⟩ := hR 11 (by decide)
  obtain ⟨A12', L12', c12', e12, hz12', ho12'⟩ := hR 12 (by decide)
  obtain ⟨k13', e13, hk13'⟩ := hR 13 (by decide)
  clear hR
  simp only [finA, Act.put, List.setIfInBounds_toArray, List.set_cons_succ, List.set_cons_zero, Nat.reduceAdd, e0, e1, e2, e3, e4, e5, e6, e7, e8, e9, e10, e11, e12, e13]
  clear e0 e1 e2 e3 e4 e5 e6 e7 e8 e9 e10 e11 e12 e13
  have H13 := Lib.hid (bnext H12.out hJ3)
  have H23 := Lib.hid hJ3
  clear hJ3
  go_wp2_with fail
  refine wp_region_specs [
    Spec.val (.int .i64 depth),
    Spec.val (.slice A n c),
    Spec.val (.int .i64 (a : Nat)),
    Spec.val (.slice A2 (n - a) (c - a)),
    Spec.val (.slice B n d),
    Spec.val (.int .i64 (a : Nat)),
    Spec.val (.slice B2 (n - a) (d - a)),
    Spec.row #[.slice A2 (n - a) (c - a), .slice B2 (n - a) (d - a)] 32 2,
    TuP w3.heap.size C3 X3,
    TuP w3.heap.size C3 X3,
    SlP w3.heap.size C3 X3,
    KnP C3,
    SlP w3.heap.size C3 X3,
    KnP C3] w3 (by kernel_rfl) (by repeat (first | exact Below.refl _ _ | assumption | refine below_drewN ?_ _ | refine Below.drew ?_ | refine Below.alloc ?_ (Nat.le_refl _) _ | refine bal ?_ _ | refine bnext ?_ (by assumption))) (n := 117) rfl (by decide +kernel) ⟨?_, ?_, ?_, ?_, ?_, ?_, ?_, ?_, ?_, ?_, ?_, ?_, ?_, ?_, trivial⟩ ?_
  · intro ac wd hJ hfr hdep
    have s0 : ac.tmps.getD 0 undef = .int .i64 depth := (hfr 0 (by decide)).trans rfl
    have s0' := slot' s0
    clear hfr hdep
    refine if_wanted rfl (fun Q => op_any (fun K hK => ?_))
    go_simp
    exact hK _ _ rfl hJ (Below.refl _ _)
  · intro ac wd hJ hfr hdep
    have s7 : ac.tmps.getD 7 undef = .slice A n c := (hfr 7 (by decide)).trans rfl
    have s7' := slot' s7
    clear hfr hdep
    refine if_wanted rfl (fun Q => op_any (fun K hK => ?_))
    go_simp
    exact hK _ _ rfl hJ (Below.refl _ _)
  · intro ac wd hJ hfr hdep
    have s2 : ac.tmps.getD 2 undef = .int .i64 (a : Nat) := (hfr 2 (by decide)).trans rfl
    have s2' := slot' s2
    clear hfr hdep
    refine if_wanted rfl (fun Q => op_any (fun K hK => ?_))
    go_simp
    exact hK _ _ rfl hJ (Below.refl _ _)
  · intro ac wd hJ hfr hdep
    have s62 : ac.tmps.getD 62 undef = .slice A n c := hdep 1 _ 62 (by decide) rfl rfl
    have s63 : ac.tmps.getD 63 undef = .int .i64 (a : Nat) := hdep 2 _ 63 (by decide) rfl rfl
    have s62' := slot' s62
    have s63' := slot' s63
    clear hfr hdep
    refine if_wanted rfl (fun Q => op_any (fun K hK => ?_))
    go_simp
    exact hK _ _ rfl hJ (Below.refl _ _)
  · intro ac wd hJ hfr hdep
    have s8 : ac.tmps.getD 8 undef = .slice B n d := (hfr 8 (by decide)).trans rfl
    have s8' := slot' s8
    clear hfr hdep
    refine if_wanted rfl (fun Q => op_any (fun K hK => ?_))
    go_simp
    exact hK _ _ rfl hJ (Below.refl _ _)
  · intro ac wd hJ hfr hdep
    have s2 : ac.tmps.getD 2 undef = .int .i64 (a : Nat) := (hfr 2 (by decide)).trans rfl
    have s2' := slot' s2
    clear hfr hdep
    refine if_wanted rfl (fun Q => op_any (fun K hK => ?_))
    go_simp
    exact hK _ _ rfl hJ (Below.refl _ _)
  · intro ac wd hJ hfr hdep
    have s65 : ac.tmps.getD 65 undef = .slice B n d := hdep 4 _ 65 (by decide) rfl rfl
    have s66 : ac.tmps.getD 66 undef = .int .i64 (a : Nat) := hdep 5 _ 66 (by decide) rfl rfl
    have s65' := slot' s65
    have s66' := slot' s66
    clear hfr hdep
    refine if_wanted rfl (fun Q => op_any (fun K hK => ?_))
    go_simp
    exact hK _ _ rfl hJ (Below.refl _ _)
  · intro ac wd hJ hfr hdep
    have s64 : ac.tmps.getD 64 undef = .slice A2 (n - a) (c - a) := hdep 3 _ 64 (by decide) rfl rfl
    have s67 : ac.tmps.getD 67 undef = .slice B2 (n - a) (d - a) := hdep 6 _ 67 (by decide) rfl rfl
    have s64' := slot' s64
    have s67' := slot' s67
    clear hfr hdep
    refine if_wanted rfl (fun Q => op_any (fun K hK => ?_))
    go_simp
    exact hK _ _ ⟨_, rfl, heap_alloc_new wd _⟩ (bal hJ _) (bal (Below.refl _ _) _)
  · intro ac wd hJ hfr hdep
    have s61 : ac.tmps.getD 61 undef = .int .i64 depth := hdep 0 _ 61 (by decide) rfl rfl
    obtain ⟨g68, s68, b68⟩ := hdep 7 _ 68 (by decide) rfl rfl
    have s61' := slot' s61
    have s68' := slot' s68
    clear hfr hdep
    refine if_wanted rfl (fun Q => op_any (fun K hK => ?_))
    go_simp
    refine (HD3.out g68 _ b68 (bnext H13.out hJ)).mono ?_
    rintro e wz ⟨Av, Lv, cv, kv, rfl, q1, q2, q3, hbz⟩
    exact hK _ _ ⟨Av, Lv, cv, kv, rfl, q1, q2, fun h => ⟨(q3 h).1, (q3 h).2.less hJ.size⟩⟩ (bnext hJ hbz) hbz
  · intro ac wd hJ hfr hdep
    obtain ⟨A69, L69, c69, k69, s69, hk69, hz69, ho69⟩ := hdep 8 _ 69 (by decide) rfl rfl
    have s69' := slot' s69
    clear hfr hdep
    refine if_wanted rfl (fun Q => op_any (fun K hK => ?_))
    go_simp
    exact hK _ _ ⟨_, _, _, _, rfl, hk69, hz69, ho69⟩ hJ (Below.refl _ _)
  · intro ac wd hJ hfr hdep
    obtain ⟨A60, L60, c60, k60, s60, hk60, hz60, ho60⟩ := hdep 9 _ 60 (by decide) rfl rfl
    have s60' := slot' s60
    clear hfr hdep
    refine if_wanted rfl (fun Q => op_any (fun K hK => ?_))
    go_simp
    exact hK _ _ ⟨_, _, _, rfl, hz60, ho60⟩ hJ (Below.refl _ _)
  · intro ac wd hJ hfr hdep
    obtain ⟨A60, L60, c60, k60, s60, hk60, hz60, ho60⟩ := hdep 9 _ 60 (by decide) rfl rfl
    have s60' := slot' s60
    clear hfr hdep
    refine if_wanted rfl (fun Q => op_any (fun K hK => ?_))
    go_simp
    exact hK _ _ ⟨_, rfl, hk60⟩ hJ (Below.refl _ _)
  · intro ac wd hJ hfr hdep
    obtain ⟨A70, L70, c70, s70, hz70, ho70⟩ := hdep 10 _ 70 (by decide) rfl rfl
    have s70' := slot' s70
    clear hfr hdep
    refine if_wanted rfl (fun Q => op_any (fun K hK => ?_))
    go_simp
    exact hK _ _ ⟨_, _, _, rfl, hz70, ho70⟩ hJ (Below.refl _ _)
  · intro ac wd hJ hfr hdep
    obtain ⟨k71, s71, hk71⟩ := hdep 11 _ 71 (by decide) rfl rfl
    have s71' := slot' s71
    clear hfr hdep
    refine if_wanted rfl (fun Q => op_any (fun K hK => ?_))
    go_simp
    exact hK _ _ ⟨_, rfl, hk71⟩ hJ (Below.refl _ _)
  intro f7 w4 hJ4 hR
  have e0 : f7 0 = .int .i64 depth := hR 0 (by decide)
  have e1 : f7 1 = .slice A n c := hR 1 (by decide)
  have e2 : f7 2 = .int .i64 (a : Nat) := hR 2 (by decide)
  have e3 : f7 3 = .slice A2 (n - a) (c - a) := hR 3 (by decide)
  have e4 : f7 4 = .slice B n d := hR 4 (by decide)
  have e5 : f7 5 = .int .i64 (a : Nat) := hR 5 (by decide)
  have e6 : f7 6 = .slice B2 (n - a) (d - a) := hR 6 (by decide)
  obtain ⟨g7'', e7, b7''⟩ := hR 7 (by decide)
  obtain ⟨A8'', L8'', c8'', k8'', e8, hk8'', hz8'', ho8''⟩ := hR 8 (by decide)
  obtain ⟨A9'', L9'', c9'', k9'', e9, hk9'', hz9'', ho9''⟩ := hR 9 (by decide)
  obtain ⟨A10'', L10'', c10'', e10, hz10'', ho10''⟩ := hR 10 (by decide)
  obtain ⟨k11'', e11, hk11''⟩ := hR 11 (by decide)
  obtain ⟨A12'', L12'', c12'', e12, hz12'', ho12''⟩ := hR 12 (by decide)
  obtain ⟨k13'', e13, hk13''⟩ := hR 13 (by decide)
  clear hR
  simp only [finA, Act.put, List.setIfInBounds_toArray, List.set_cons_succ, List.set_cons_zero, Nat.reduceAdd, e0, e1, e2, e3, e4, e5, e6, e7, e8, e9, e10, e11, e12, e13]
  clear e0 e1 e2 e3 e4 e5 e6 e7 e8 e9 e10 e11 e12 e13
  have H34 := Lib.hid hJ4
  have H14 := Lib.hid (bnext H13.out hJ4)
  have Hb4 := Lib.hid (bnext Hb1.out H14.out)
  clear hJ4
  by_cases g1 : C1
  · obtain ⟨g2, g3⟩ := Hiff.out.1 g1
    obtain ⟨hd1, hd2⟩ := Hdep.out g1
    have hk1 : k1 = 0 := Hk1.out.2 g1
    have hk2 : k13' = 0 := hk13'.2 g2
    have hk3 : k13'' = 0 := hk13''.2 g3
    have hTa := Ht1.out g1
    have hLa := Ho1.out g1
    obtain ⟨hLb, hTb⟩ := ho12' g2
    obtain ⟨hLc, hTc⟩ := ho12'' g3
    subst hk1 hk2 hk3
    obtain ⟨D, rfl⟩ : ∃ D : Nat, depth = D := ⟨depth.toNat, by omega⟩
    have hol := Hlen2.out
    rw [show ((D : Int)).toNat = D from Int.toNat_natCast D] at hol
    have hLn : La = n * 2 * ((D + 7) / 8) := hLa.trans hol
    have hq4 : (D + 7) / 8 ≤ 4 := by omega
    obtain ⟨q, hq⟩ : ∃ q, (D + 7) / 8 = q := ⟨_, rfl⟩
    have hqI : ((D : Int) + 7) / 8 = (q : Int) := by rw [← hq]; omega
    rw [hq] at hLn hq4
    have hpr : (2 : Int) * (n : Int) * (q : Int) = (La : Int) := by rw [hLn]; push_cast; rw [Int.mul_comm (2 : Int)]
    have hLa3 : La ≤ 320 := by
      rw [hLn]
      have h := Nat.mul_le_mul (Nat.mul_le_mul_right 2 hn40) hq4
      omega
    have hXl : X1.length = X2.length + X3.length := by rw [Hcat.out, List.length_append]
    have hTb4 : Tl w4 w2.heap.size (.slice A12' L12' c12') (bv X2) := hTb.block (fun k hk => H34.out.block k (hTb.lt k hk).2)
    obtain ⟨Ac', cc', e5, -, -, hrc, hnc, -, -⟩ := hTc.form
    obtain ⟨Aa', ca', e6, -, -, hra, -, hab, -⟩ := hTa.form
    injection e5 with e51 e52 e53
    subst e51 e53
    injection e6 with e61 e62 e63
    subst e61 e63
    have HTb := Lib.hid hTb4
    have Hab : Hid (∀ k o, Aa = some ⟨k, o, none⟩ → k < w2.heap.size) := fun k o e => (hab k o e).2
    have Hrc := Lib.hid hrc
    have hra4 := hra.below (bnext H23.out H34.out)
    have hbl : (bv X2).length + L12'' ≤ 140737488355328 := by rw [bv_length]; omega
    have hcl : (bv X3).length = L12'' := by rw [bv_length]; exact hLc.symm
    have hwi : w2.heap.size ≤ w4.heap.size := Nat.le_trans H23.out.size H34.out.size
    have Hnc : Hid (A12'' = none → c12'' = 0) := fun e => (hnc e).2
    have Hra := Lib.hid hra4
    have HLb := Lib.hid hLb
    have HLc := Lib.hid hLc
    have HLa := Lib.hid hLa
    have hqn : q ≤ 4 := hq4
    clear hab hTa hTb hTc hTb4 hrc hnc hra hra4 hol hLa hLb hLc hLn hXl e52 e62 Hk1 Hlen2 Ho1 Ht1 Hz1 Hiff Hdep hq hq4 ho12' ho12'' hz12' hz12''
    have h7 : (0 : Int) ≤ (D : Int) + 7 := by omega
    go_wp2_with (at_builtin; refine appT rfl _ _ 22 rfl Tryd.underlying22 info_u8b rfl rfl HTb.out hwi rfl Hrc.out hcl Hnc.out (bv_one X3) hbl ?_; intro v2 w5 hT5 hg5 hat5; obtain ⟨A5, n5, c5, rfl, hn5⟩ := hT5.shape; have HT5 := Lib.hid hT5; have Hg5 := Lib.hid hg5; have Hn5 := Lib.hid hn5; clear hT5 hg5 hat5 hn5)
    have hn5 : n5 = La := by rw [Hn5.out, ← bv_append, ← Hcat.out, bv_length, ← HLa.out]
    subst hn5
    have hfr5 : Fr (fun b => (Value.slice A12' L12' c12').ownBlock = some b) w4 w5 := ⟨Hg5.out.os, Hg5.out.tape, Hg5.out.output, Hg5.out.size, fun k hk hs => Hg5.out.block k hk (fun e => hs e.symm)⟩
    have hww : w.heap.size ≤ w2.heap.size := Nat.le_trans Hb1.out.size H12.out.size
    have Hb5 : Hid (Below w.heap.size w w5) := hfr5.below Hb4.out (fun b hb => Nat.le_trans hww (HTb.out.lt b hb).1)
    have hra5 : Rd w5 Aa (bv X1) := Hra.out.fr hfr5 (fun k o e _ hk => by
      have := Hab.out k o e
      have := (HTb.out.lt k hk).1
      omega)
    obtain ⟨A6, c6, e7, -, -, hr6, -, -, -⟩ := HT5.out.form
    injection e7 with e71 e72 e73
    subst e71 e73
    rw [← bv_append, ← Hcat.out] at hr6
    have HBy := bytesQ_any X1 X1 Aa A5 ca c5 w5 hra5 hr6 (by rw [← HLa.out]; omega)
    rw [← HLa.out, decide_eq_true rfl] at HBy
    have HBy := Lib.hid HBy
    clear hfr5 hww hra5 hr6 e72 hwi hcl hbl hk13' hk13''
    refine HBy.out.mono ?_
    rintro e w6 ⟨rfl, qd, rfl⟩
    have Hb6 := Lib.hid (below_drewN Hb5.out qd)
    clear HBy
    go_wp2_with fail
    refine (awake_any _ (HT.out.below Hb6.out)).mono ?_
    rintro e w9 ⟨rfl, hb9⟩
    have hb10 := bnext Hb6.out hb9
    go_wp2_with fail
    go_ret
    exact ⟨rfl, hb10⟩
  · have g2 : ¬ C2 ∨ ¬ C3 := by
      rcases Classical.em C2 with h | h
      · exact .inr fun h3 => g1 (Hiff.out.2 ⟨h, h3⟩)
      · exact .inl h
    have hk1 : ¬ k1 = 0 := fun h => g1 (Hk1.out.1 h)
    obtain rfl : La = 0 := Hz1.out g1
    have HT4 := Lib.hid (HT.out.below Hb4.out)
    clear Hiff Hz1 Hdep Ho1 Ht1 Hk1 ho12' ho12'' hz12' hz12''
    by_cases g3 : k13' = 0
    · have g4 : ¬ k13'' = 0 := fun h => g2.elim (fun q => q (hk13'.1 g3)) (fun q => q (hk13''.1 h))
      subst g3
      have hg4 : (k13'' != 0) = true := by simp [g4]
      clear g2 hk13' hk13''
      go_wp2_with fail
      refine (awake_any _ HT4.out).mono ?_
      rintro e w9 ⟨rfl, hb9⟩
      have hb10 := bnext Hb4.out hb9
      go_wp2_with fail
      go_ret
      exact ⟨rfl, hb10⟩
    · clear g2 hk13' hk13''
      go_wp2_with fail
      refine (awake_any _ HT4.out).mono ?_
      rintro e w9 ⟨rfl, hb9⟩
      have hb10 := bnext Hb4.out hb9
      go_wp2_with fail
      go_ret
      exact ⟨rfl, hb10⟩
end Go.Proofs.YtibhhebfenkeaaaDoor
