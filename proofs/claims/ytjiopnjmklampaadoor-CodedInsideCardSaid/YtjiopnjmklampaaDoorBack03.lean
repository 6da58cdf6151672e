/-
  jetsamlaw03.CodedBack: its walk.
-/
import Derived.Test.YtjiopnjmklampaaDoorInside03
namespace Go.Proofs.YtjiopnjmklampaaDoor
open Go.RowKit

theorem getR_size (l : List Nat) (hl8 : ∀ x ∈ l, x < 256) (h : (getR l).2.2 = 0) : 1 ≤ (getR l).2.1 := by
  obtain ⟨h1, h2, -, -⟩ := getR_ok l hl8 h
  rw [h2]; exact (szN_pos _).1

set_option maxHeartbeats 2000000 in
/-- The second half of the law: Put of what was got. -/
theorem back_walk (n : Int) (l : List Nat) (hl8 : ∀ x ∈ l, x < 256) (A : Option Addr) (c : Nat) (w : World) (hr : Rd w A (nv8 l)) (hc : l.length ≤ c) (hA : A = none → l.length = 0 ∧ c = 0) (ht : TabAt w) :
    Calls Tryd.prog 4 #[.int .i64 n, .slice A l.length c] w fun e w' => e = .returned (.bool true) ∧ Below w.heap.size w w' := by
  have Ht := Lib.hid ht; clear ht
  have Hr := Lib.hid hr; clear hr
  have H8 := Lib.hid hl8; clear hl8
  by_cases h40 : 40 < l.length
  · have h40' : (40 : Int) < l.length := by omega
    go_enter Tryd.func4, Tryd.ntmps4
    go_wp2_with fail
    refine (awake_any _ Ht.out).mono ?_
    rintro e w3 ⟨rfl, hb3⟩
    go_wp2_with fail
    go_ret
    exact ⟨rfl, hb3⟩
  have h40' : ¬ (40 : Int) < l.length := by omega
  have Hgok := Lib.hid (getR_ok l H8.out)
  have Hgsz := Lib.hid (getR_size l H8.out)
  have Hgerr := Lib.hid (getR_err l)
  obtain ⟨g, hg⟩ : ∃ g, getR l = g := ⟨_, rfl⟩
  rw [hg] at Hgok Hgsz Hgerr
  obtain ⟨gn, gs, ge⟩ := g
  simp only [] at Hgok Hgsz Hgerr
  have Hg := Lib.hid hg
  clear hg
  go_enter Tryd.func4, Tryd.ntmps4
  go_wp2_with fail
  by_cases hn : n < 0 ∨ 68719476735 < n
  · refine (put_no n hn _).mono ?_
    rintro e w1 ⟨rfl, hb1⟩
    go_wp2_with fail
    refine (get_any l H8.out A c _ (Hr.out.below hb1) (by omega) (Ht.out.below hb1)).mono ?_
    rintro e w91 ⟨rfl, hb91⟩
    rw [Hg.out]
    have hb92 := bnext hb1 hb91
    by_cases hge : ge = 0
    · obtain ⟨g1, g2, g3, g4⟩ := Hgok.out hge
      have g5 := Hgsz.out hge
      subst hge
      have hlc := codeN_length gn
      have G4 := Lib.hid g4
      rw [← g2] at g3 G4
      obtain ⟨cd, hcd⟩ : ∃ x, codeN gn = x := ⟨_, rfl⟩
      rw [hcd] at hlc
      rw [← g2] at hlc
      have HL := Lib.hid hlc
      have Hcd := Lib.hid hcd
      clear g2 g4 hlc
      simp only []
      go_wp2_with fail
      refine (put_rd gn g1 _ (Ht.out.below hb92)).mono ?_
      rintro e w93 ⟨A93, c93, rfl, hc93, -, Hr93, hb93⟩
      rw [hcd] at hc93 Hr93 ⊢
      clear hcd
      have hb94 := bnext hb92 hb93
      have hgs1 : (1 : Int) ≤ (gs : Int) := by omega
      have hgs2 : (gs : Int) ≤ l.length := by omega
      have hgs3 : gs ≤ c := by omega
      have HB : Hid (∀ W, Below w93.heap.size w93 W → Calls Tryd.prog 10 #[.slice A93 cd.length c93, .slice A gs c] W fun e w' => e = .returned (.bool true) ∧ Below W.heap.size W w') := by
        intro W hW
        have h := bytes_any cd (l.take gs) A93 A c93 c W (Hr93.out.below hW) (by rw [nv8_take]; exact ((Hr.out.below hb94).below hW).take gs) (by rw [HL.out]; omega)
        rw [List.length_take, Nat.min_eq_left g3, decide_eq_true (Hcd.out.symm.trans G4.out)] at h
        exact h
      clear Hr93 HL Hcd G4
      go_wp2_with fail
      refine (HB.out _ (Below.refl _ _)).mono ?_
      rintro e w95 ⟨rfl, hb95⟩
      have hb96 := bnext hb94 hb95
      go_wp2_with fail
      refine (awake_any _ (Ht.out.below hb96)).mono ?_
      rintro e w97 ⟨rfl, hb97⟩
      go_wp2_with fail
      go_ret
      exact ⟨rfl, bnext hb96 hb97⟩
    · obtain ⟨g1, g2⟩ := Hgerr.out hge
      have g3 : (ge : Int) ≠ 0 := by omega
      have g4 : ((ge : Int) != 0) = true := by rw [bne_iff_ne]; exact g3
      subst g1
      subst g2
      clear hge
      simp only []
      go_wp2_with fail
      refine (awake_any _ (Ht.out.below hb92)).mono ?_
      rintro e w93 ⟨rfl, hb93⟩
      go_wp2_with fail
      go_ret
      exact ⟨rfl, bnext hb92 hb93⟩
  · obtain ⟨m, rfl⟩ : ∃ m : Nat, n = m := ⟨n.toNat, by omega⟩
    have hm : m < 68719476736 := by omega
    clear hn
    have L := codeN_length m
    have hs := szN_pos m
    have G0 := getR_code m hm l
    have G1 := getR_part m hm
    have C8 := codeN_lt m hm
    rw [← L] at hs G0 G1
    refine (put_rd m hm _ Ht.out).mono ?_
    rintro e w1 ⟨A1, c1, rfl, hc1, Hown1, Hr1, hb1⟩
    obtain ⟨cd, hcd⟩ : ∃ x, codeN m = x := ⟨_, rfl⟩
    rw [hcd] at hs G0 G1 C8 hc1 Hown1 Hr1 ⊢
    have HG0 := Lib.hid G0
    have HG1 := Lib.hid G1
    have HC8 := Lib.hid C8
    clear G0 G1 C8 hcd L
    have hsz1 := hb1.size
    have hA1 : A1 = none → cd.length = 0 ∧ c1 = 0 := by
      rintro rfl
      obtain ⟨b, o, e, -⟩ := Hr1.out.at_ (j := 0) (by rw [nv8_length]; omega)
      cases e
    go_upto_region 7 with (at_builtin; refine appB (w0 := w1) rfl _ _ 22 rfl Tryd.underlying22 info_u8 rfl rfl (World.ownsRow_nil w1 w1.heap.size _ 1) (Nat.le_refl _) (Nat.le_refl _) (Below.refl _ _) rfl hA1 (nv8_length cd) Hr1.out (nv8_one cd) (by omega) (by unfold maxLen; omega) ?_; intro v2 w2 own2 hb2 hs2 hgr2 hat2)
    have Own2 := Lib.hid own2
    clear own2 hgr2 hat2 Hown1 hA1
    have Hrl2 : Hid (Rd w2 A (nv8 l)) := (Hr.out.below hb1).below hb2
    go_upto_region 8 with (at_builtin; refine appB (w0 := w1) rfl _ _ 22 rfl Tryd.underlying22 info_u8 rfl rfl Own2.out (Nat.le_refl _) hs2 hb2 rfl hA (nv8_length l) Hrl2.out (nv8_one l) (by omega) (by unfold maxLen; omega) ?_; intro v3 w3 own3 hb13 hs3 hgr3 hat3)
    have Hr3 : Hid (Rd w3 A1 (nv8 cd)) := Hr1.out.below hb13
    have hb3 := bnext hb1 hb13
    rw [List.nil_append, ← nv8_append, Nat.zero_add] at own3
    obtain ⟨A3, c3, rfl, hc3, hr3⟩ := own_rd own3
    have hN : (cd ++ l).length = cd.length + l.length := List.length_append
    have G := get_any (cd ++ l) (fun x hx => (List.mem_append.1 hx).elim (HC8.out x) (H8.out x)) A3 c3 w3 hr3 (by omega) (Ht.out.below hb3)
    rw [HG0.out, hN] at G
    have HG := Lib.hid G
    clear G hr3 own3 hgr3 hat3 Own2 Hrl2 hb2 hs2 Hr1 hN HG0
    go_wp2_with fail
    refine HG.out.mono ?_
    rintro e w4 ⟨rfl, hb34⟩
    have hb4 := bnext hb3 hb34
    have Hr4 : Hid (Rd w4 A1 (nv8 cd)) := Hr3.out.below hb34
    clear HG Hr3 hb34 hb3 hb13 hs3
    obtain ⟨p, hp⟩ : ∃ p, cd.length = p := ⟨_, rfl⟩
    have Hp := Lib.hid hp
    rw [hp] at HG1 hs hc1 hc3
    rw [hp]
    clear hp
    simp only []
    go_wp2_with fail
    go_loopw [11] (fun i wr => ∃ k : Nat, k ≤ p ∧ i = .int .i64 k ∧ Hid (Below w4.heap.size w4 wr)) (fun i _ => p - (intOf i).toNat)
    case atStart => exact ⟨0, by omega, rfl, Below.refl _ _⟩
    case round =>
      obtain ⟨k, hk, rfl, Hb⟩ := hrel
      by_cases hkk : k < p
      · have hkc : k ≤ c1 := by omega
        have G := get_any (cd.take k) (fun x hx => HC8.out x (List.mem_of_mem_take hx)) A1 c1 wr (by rw [nv8_take]; exact (Hr4.out.below Hb.out).take k) (by rw [List.length_take]; omega) ((Ht.out.below hb4).below Hb.out)
        rw [HG1.out k hkk, List.length_take, Nat.min_eq_left (by have := Hp.out; omega)] at G
        have HG := Lib.hid G
        clear G
        go_wp2_with fail
        refine HG.out.mono ?_
        rintro e w5 ⟨rfl, hb5⟩
        go_wp2_with fail
        go_roundw
        case rel =>
          (repeat apply Exists.intro)
          refine ⟨⟨k + 1, by omega, ?_, bnext Hb.out hb5⟩, rfl⟩
          go_num
        case measure => simp [intOf] <;> omega
      · obtain rfl : k = p := by omega
        have hb5 := bnext hb4 Hb.out
        go_wp2_with fail
        refine (get_any l H8.out A c _ (Hr.out.below hb5) (by omega) (Ht.out.below hb5)).mono ?_
        rintro e w91 ⟨rfl, hb91⟩
        rw [Hg.out]
        have hb92 := bnext hb5 hb91
        by_cases hge : ge = 0
        · obtain ⟨g1, g2, g3, g4⟩ := Hgok.out hge
          have g5 := Hgsz.out hge
          subst hge
          have hlc := codeN_length gn
          have G4 := Lib.hid g4
          rw [← g2] at g3 G4
          obtain ⟨cd, hcd⟩ : ∃ x, codeN gn = x := ⟨_, rfl⟩
          rw [hcd] at hlc
          rw [← g2] at hlc
          have HL := Lib.hid hlc
          have Hcd := Lib.hid hcd
          clear g2 g4 hlc
          simp only []
          go_wp2_with fail
          refine (put_rd gn g1 _ (Ht.out.below hb92)).mono ?_
          rintro e w93 ⟨A93, c93, rfl, hc93, -, Hr93, hb93⟩
          rw [hcd] at hc93 Hr93 ⊢
          clear hcd
          have hb94 := bnext hb92 hb93
          have hgs1 : (1 : Int) ≤ (gs : Int) := by omega
          have hgs2 : (gs : Int) ≤ l.length := by omega
          have hgs3 : gs ≤ c := by omega
          have HB : Hid (∀ W, Below w93.heap.size w93 W → Calls Tryd.prog 10 #[.slice A93 cd.length c93, .slice A gs c] W fun e w' => e = .returned (.bool true) ∧ Below W.heap.size W w') := by
            intro W hW
            have h := bytes_any cd (l.take gs) A93 A c93 c W (Hr93.out.below hW) (by rw [nv8_take]; exact ((Hr.out.below hb94).below hW).take gs) (by rw [HL.out]; omega)
            rw [List.length_take, Nat.min_eq_left g3, decide_eq_true (Hcd.out.symm.trans G4.out)] at h
            exact h
          clear Hr93 HL Hcd G4
          go_wp2_with fail
          refine (HB.out _ (Below.refl _ _)).mono ?_
          rintro e w95 ⟨rfl, hb95⟩
          have hb96 := bnext hb94 hb95
          go_wp2_with fail
          refine (awake_any _ (Ht.out.below hb96)).mono ?_
          rintro e w97 ⟨rfl, hb97⟩
          go_wp2_with fail
          go_ret
          exact ⟨rfl, bnext hb96 hb97⟩
        · obtain ⟨g1, g2⟩ := Hgerr.out hge
          have g3 : (ge : Int) ≠ 0 := by omega
          have g4 : ((ge : Int) != 0) = true := by rw [bne_iff_ne]; exact g3
          subst g1
          subst g2
          clear hge
          simp only []
          go_wp2_with fail
          refine (awake_any _ (Ht.out.below hb92)).mono ?_
          rintro e w93 ⟨rfl, hb93⟩
          go_wp2_with fail
          go_ret
          exact ⟨rfl, bnext hb92 hb93⟩
end Go.Proofs.YtjiopnjmklampaaDoor
