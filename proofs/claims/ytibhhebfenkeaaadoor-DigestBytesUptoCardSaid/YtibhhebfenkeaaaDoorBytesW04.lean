/-
  jetsamlaw04.DigestBytes: its walk.
-/
import Derived.Test.YtibhhebfenkeaaaDoorRBy04
import Derived.Test.YtibhhebfenkeaaaDoorTells04
namespace Go.Proofs.YtibhhebfenkeaaaDoor
open Go.RowKit

set_option maxRecDepth 100000 in
set_option maxHeartbeats 8000000 in
theorem bytes_walk (depth : Int) (cs : List (List Int)) (A : Option Addr) (c : Nat) (w : World) (hB : ZZ w A cs) (hlen : ∀ x ∈ cs, x.length ≤ 1000000000000) (ht : Tabs w) :
    Calls Tryd.prog 4 #[.int .i64 depth, .slice A cs.length c] w fun e w' => e = .returned (.bool true) ∧ Below w.heap.size w w' := by
  have HT := Lib.hid ht
  clear ht
  by_cases h10 : (cs.length : Int) > 10
  · go_enter Tryd.func4, Tryd.ntmps4
    go_wp2_with fail
    refine (awake_any _ HT.out).mono ?_
    rintro e w9 ⟨rfl, hb9⟩
    go_wp2_with fail
    go_ret
    exact ⟨rfl, hb9⟩
  have HD := Lib.hid (DB_any depth cs A c w hB hlen (by omega))
  have HRB := Lib.hid (fun (d : Nat) (hd : depth = d) (ha : argX depth cs) W (h : Below w.heap.size w W) => RB_any d cs A c W (hB.below h) (hd ▸ ha) (by
    have h1 := ha.2.2.1
    rw [headD_zero cs (by omega)]
    exact hlen _ (List.getElem_mem _)))
  have HE : Hid (∀ (j : Nat) (hj : j < cs.length), ∃ b o B2 c2, A = some ⟨b, o, none⟩ ∧ ∀ W, Below w.heap.size w W → W.cell? ⟨b, o + j, none⟩ = some (.slice B2 cs[j].length c2)) := by
    intro j hj
    obtain ⟨vs, hvl, hrd, hx⟩ := hB
    obtain ⟨B2, c2, e3, hc2, hr2⟩ := hx j vs[j] cs[j] (List.getElem?_eq_getElem (by omega)) (List.getElem?_eq_getElem hj)
    obtain ⟨b, o, rfl, -⟩ := hrd.at_ (j := j) (by omega)
    refine ⟨b, o, B2, c2, rfl, fun W h => ?_⟩
    obtain ⟨b', o', e', hc'⟩ := (hrd.below h).at_ (j := j) (by omega)
    have e1 : b' = b ∧ o' = o := by simp at e'; exact ⟨e'.1.symm, e'.2.symm⟩
    rw [e1.1, e1.2, e3] at hc'
    exact hc'
  have Hlen := Lib.hid hlen
  clear hB hlen
  go_enter Tryd.func4, Tryd.ntmps4
  go_wp2_with fail
  refine HD.out.mono ?_
  rintro e w2 ⟨hb2, hcase⟩
  have Hb2 := Lib.hid hb2
  have key : ∃ (Av : Option Addr) (Lv cv : Nat) (k : Int), e = .returned (.tuple #[.slice Av Lv cv, .int .i64 k]) ∧ ((¬ argX depth cs ∧ k = 1 ∧ Lv = 0) ∨ (argX depth cs ∧ ¬ (∀ x ∈ allX cs, okX depth.toNat x) ∧ k = 10 ∧ Lv = 0) ∨ (argX depth cs ∧ (∀ x ∈ allX cs, okX depth.toNat x) ∧ k = 0 ∧ Lv = (outX depth.toNat (allX cs)).length ∧ Rd w2 Av (bv (outX depth.toNat (allX cs))))) := by
    rcases hcase with ⟨h1, rfl⟩ | ⟨h1, h2, rfl⟩ | ⟨h1, h2, v, rfl, hown⟩
    · exact ⟨none, 0, 0, 1, rfl, .inl ⟨h1, rfl, rfl⟩⟩
    · exact ⟨none, 0, 0, 10, rfl, .inr (.inl ⟨h1, h2, rfl, rfl⟩)⟩
    · obtain ⟨A3, c3, rfl, -, -, hr3, -⟩ := own_rd4 hown.out
      exact ⟨A3, _, c3, 0, rfl, .inr (.inr ⟨h1, h2, rfl, rfl, hr3⟩)⟩
  obtain ⟨Av, Lv, cv, k, rfl, hk⟩ := key
  have Hk := Lib.hid hk
  clear hcase hb2 hk HD
  by_cases f1 : depth < 4
  · have Hbad : Hid (¬ argX depth cs) := fun h => by have h1 := h.1; have h2 := h.2.1; have h3 := h.2.2.1; have h4 := h.2.2.2.1; omega
    have hkk : k = 1 ∧ Lv = 0 := by
      rcases Hk.out with ⟨-, h1, h2⟩ | ⟨h, -⟩ | ⟨h, -⟩
      · exact ⟨h1, h2⟩
      · exact absurd h Hbad.out
      · exact absurd h Hbad.out
    obtain ⟨rfl, rfl⟩ := hkk
    clear Hk Hbad HRB
    go_wp2_with fail
    go_loopw [7, 8] (fun x7 i wr => ∃ j : Nat, j ≤ cs.length ∧ i = .int .i64 j ∧ x7 = .bool true ∧ Hid (Below w.heap.size w wr)) (fun _ i _ => cs.length - (intOf i).toNat)
    case atStart => exact ⟨0, by omega, rfl, rfl, Hb2.out⟩
    case round =>
      clear Hb2
      obtain ⟨j, hj, rfl, rfl, Hb⟩ := hrel
      by_cases hjj : j < cs.length
      · obtain ⟨b, o, B2, c2, rfl, hW⟩ := HE.out j hjj
        have hc2 := hW wr Hb.out
        have hjI : (j : Int) < cs.length := by omega
        have hjz : (0 : Int) ≤ (j : Int) := by omega
        obtain ⟨m, hme⟩ : ∃ m, cs[j].length = m := ⟨_, rfl⟩
        rw [hme] at hc2
        clear hme hW
        by_cases h40 : (m : Int) > 40
        · go_wp2_with fail
          refine (awake_any _ (HT.out.below Hb.out)).mono ?_
          rintro e w9 ⟨rfl, hb9⟩
          have hb10 := bnext Hb.out hb9
          go_wp2_with fail
          go_ret
          exact ⟨rfl, hb10⟩
        · go_wp2_with fail
          go_quiet (fail)
          go_wp2_with fail
          go_roundw
          case rel => exact ⟨j + 1, by omega, by go_num, rfl, below_drewN Hb.out _⟩
          case measure => simp [intOf] <;> omega
      · obtain rfl : j = cs.length := by omega
        go_wp2_with fail
        refine (awake_any _ (HT.out.below Hb.out)).mono ?_
        rintro e w9 ⟨rfl, hb9⟩
        have hb10 := bnext Hb.out hb9
        go_wp2_with fail
        go_ret
        exact ⟨rfl, hb10⟩
  by_cases f2 : depth > 32
  · have Hbad : Hid (¬ argX depth cs) := fun h => by have h1 := h.1; have h2 := h.2.1; have h3 := h.2.2.1; have h4 := h.2.2.2.1; omega
    have hkk : k = 1 ∧ Lv = 0 := by
      rcases Hk.out with ⟨-, h1, h2⟩ | ⟨h, -⟩ | ⟨h, -⟩
      · exact ⟨h1, h2⟩
      · exact absurd h Hbad.out
      · exact absurd h Hbad.out
    obtain ⟨rfl, rfl⟩ := hkk
    clear Hk Hbad HRB
    go_wp2_with fail
    go_loopw [7, 8] (fun x7 i wr => ∃ j : Nat, j ≤ cs.length ∧ i = .int .i64 j ∧ x7 = .bool true ∧ Hid (Below w.heap.size w wr)) (fun _ i _ => cs.length - (intOf i).toNat)
    case atStart => exact ⟨0, by omega, rfl, rfl, Hb2.out⟩
    case round =>
      clear Hb2
      obtain ⟨j, hj, rfl, rfl, Hb⟩ := hrel
      by_cases hjj : j < cs.length
      · obtain ⟨b, o, B2, c2, rfl, hW⟩ := HE.out j hjj
        have hc2 := hW wr Hb.out
        have hjI : (j : Int) < cs.length := by omega
        have hjz : (0 : Int) ≤ (j : Int) := by omega
        obtain ⟨m, hme⟩ : ∃ m, cs[j].length = m := ⟨_, rfl⟩
        rw [hme] at hc2
        clear hme hW
        by_cases h40 : (m : Int) > 40
        · go_wp2_with fail
          refine (awake_any _ (HT.out.below Hb.out)).mono ?_
          rintro e w9 ⟨rfl, hb9⟩
          have hb10 := bnext Hb.out hb9
          go_wp2_with fail
          go_ret
          exact ⟨rfl, hb10⟩
        · go_wp2_with fail
          go_quiet (fail)
          go_wp2_with fail
          go_roundw
          case rel => exact ⟨j + 1, by omega, by go_num, rfl, below_drewN Hb.out _⟩
          case measure => simp [intOf] <;> omega
      · obtain rfl : j = cs.length := by omega
        go_wp2_with fail
        refine (awake_any _ (HT.out.below Hb.out)).mono ?_
        rintro e w9 ⟨rfl, hb9⟩
        have hb10 := bnext Hb.out hb9
        go_wp2_with fail
        go_ret
        exact ⟨rfl, hb10⟩
  by_cases f3 : (cs.length : Int) < 1
  · have Hbad : Hid (¬ argX depth cs) := fun h => by have h1 := h.1; have h2 := h.2.1; have h3 := h.2.2.1; have h4 := h.2.2.2.1; omega
    have hkk : k = 1 ∧ Lv = 0 := by
      rcases Hk.out with ⟨-, h1, h2⟩ | ⟨h, -⟩ | ⟨h, -⟩
      · exact ⟨h1, h2⟩
      · exact absurd h Hbad.out
      · exact absurd h Hbad.out
    obtain ⟨rfl, rfl⟩ := hkk
    clear Hk Hbad HRB
    go_wp2_with fail
    go_loopw [7, 8] (fun x7 i wr => ∃ j : Nat, j ≤ cs.length ∧ i = .int .i64 j ∧ x7 = .bool true ∧ Hid (Below w.heap.size w wr)) (fun _ i _ => cs.length - (intOf i).toNat)
    case atStart => exact ⟨0, by omega, rfl, rfl, Hb2.out⟩
    case round =>
      clear Hb2
      obtain ⟨j, hj, rfl, rfl, Hb⟩ := hrel
      by_cases hjj : j < cs.length
      · obtain ⟨b, o, B2, c2, rfl, hW⟩ := HE.out j hjj
        have hc2 := hW wr Hb.out
        have hjI : (j : Int) < cs.length := by omega
        have hjz : (0 : Int) ≤ (j : Int) := by omega
        obtain ⟨m, hme⟩ : ∃ m, cs[j].length = m := ⟨_, rfl⟩
        rw [hme] at hc2
        clear hme hW
        by_cases h40 : (m : Int) > 40
        · go_wp2_with fail
          refine (awake_any _ (HT.out.below Hb.out)).mono ?_
          rintro e w9 ⟨rfl, hb9⟩
          have hb10 := bnext Hb.out hb9
          go_wp2_with fail
          go_ret
          exact ⟨rfl, hb10⟩
        · go_wp2_with fail
          go_quiet (fail)
          go_wp2_with fail
          go_roundw
          case rel => exact ⟨j + 1, by omega, by go_num, rfl, below_drewN Hb.out _⟩
          case measure => simp [intOf] <;> omega
      · obtain rfl : j = cs.length := by omega
        go_wp2_with fail
        refine (awake_any _ (HT.out.below Hb.out)).mono ?_
        rintro e w9 ⟨rfl, hb9⟩
        have hb10 := bnext Hb.out hb9
        go_wp2_with fail
        go_ret
        exact ⟨rfl, hb10⟩
  by_cases f4 : (cs.length : Int) > 8
  · have Hbad : Hid (¬ argX depth cs) := fun h => by have h1 := h.1; have h2 := h.2.1; have h3 := h.2.2.1; have h4 := h.2.2.2.1; omega
    have hkk : k = 1 ∧ Lv = 0 := by
      rcases Hk.out with ⟨-, h1, h2⟩ | ⟨h, -⟩ | ⟨h, -⟩
      · exact ⟨h1, h2⟩
      · exact absurd h Hbad.out
      · exact absurd h Hbad.out
    obtain ⟨rfl, rfl⟩ := hkk
    clear Hk Hbad HRB
    go_wp2_with fail
    go_loopw [7, 8] (fun x7 i wr => ∃ j : Nat, j ≤ cs.length ∧ i = .int .i64 j ∧ x7 = .bool true ∧ Hid (Below w.heap.size w wr)) (fun _ i _ => cs.length - (intOf i).toNat)
    case atStart => exact ⟨0, by omega, rfl, rfl, Hb2.out⟩
    case round =>
      clear Hb2
      obtain ⟨j, hj, rfl, rfl, Hb⟩ := hrel
      by_cases hjj : j < cs.length
      · obtain ⟨b, o, B2, c2, rfl, hW⟩ := HE.out j hjj
        have hc2 := hW wr Hb.out
        have hjI : (j : Int) < cs.length := by omega
        have hjz : (0 : Int) ≤ (j : Int) := by omega
        obtain ⟨m, hme⟩ : ∃ m, cs[j].length = m := ⟨_, rfl⟩
        rw [hme] at hc2
        clear hme hW
        by_cases h40 : (m : Int) > 40
        · go_wp2_with fail
          refine (awake_any _ (HT.out.below Hb.out)).mono ?_
          rintro e w9 ⟨rfl, hb9⟩
          have hb10 := bnext Hb.out hb9
          go_wp2_with fail
          go_ret
          exact ⟨rfl, hb10⟩
        · go_wp2_with fail
          go_quiet (fail)
          go_wp2_with fail
          go_roundw
          case rel => exact ⟨j + 1, by omega, by go_num, rfl, below_drewN Hb.out _⟩
          case measure => simp [intOf] <;> omega
      · obtain rfl : j = cs.length := by omega
        go_wp2_with fail
        refine (awake_any _ (HT.out.below Hb.out)).mono ?_
        rintro e w9 ⟨rfl, hb9⟩
        have hb10 := bnext Hb.out hb9
        go_wp2_with fail
        go_ret
        exact ⟨rfl, hb10⟩
  have hdn : ∃ d : Nat, depth = d := ⟨depth.toNat, by omega⟩
  obtain ⟨d, rfl⟩ := hdn
  rw [Int.toNat_natCast] at Hk
  have hcl0 : (0 : Int) < cs.length := by omega
  have hcn0 : 0 < cs.length := by omega
  have Hdc : Hid (4 ≤ d ∧ d ≤ 32 ∧ 1 ≤ cs.length ∧ cs.length ≤ 8) := by refine ⟨?_, ?_, ?_, ?_⟩ <;> omega
  obtain ⟨N, hN⟩ : ∃ N, (cs.headD []).length = N := ⟨_, rfl⟩
  have HN := Lib.hid hN
  have H0 : Hid (cs[0].length = N) := (headD_zero cs hcn0).symm.trans hN
  clear hN
  go_wp2_with fail
  go_loopw [7, 8] (fun x7 i wr => ∃ (j : Nat) (p : Bool), j ≤ cs.length ∧ i = .int .i64 j ∧ x7 = .bool p ∧ Hid (p = false ↔ ∀ t (h : t < j) (h2 : t < cs.length), cs[t].length = N) ∧ Hid (Below w2.heap.size w2 wr)) (fun _ i _ => cs.length - (intOf i).toNat)
  case atStart => exact ⟨0, false, by omega, rfl, by simp only [Value.bool.injEq, Bool.or_eq_false_iff, decide_eq_false_iff_not]; omega, ⟨fun _ t h => absurd h (Nat.not_lt_zero _), fun _ => rfl⟩, Below.refl _ _⟩
  case round =>
    obtain ⟨j, p, hj, rfl, rfl, Hp, Hbj⟩ := hrel
    have Hb := Lib.hid (bnext Hb2.out Hbj.out)
    by_cases hjj : j < cs.length
    · obtain ⟨b, o, B2, c2, rfl, hW⟩ := HE.out j hjj
      obtain ⟨b', o', B0, c0, e0, hW0⟩ := HE.out 0 hcn0
      have e1 : b' = b ∧ o' = o := by simp at e0; exact ⟨e0.1.symm, e0.2.symm⟩
      have hc2 := hW wr Hb.out
      have hc0 := hW0 wr Hb.out
      rw [e1.1, e1.2, Nat.add_zero, H0.out] at hc0
      have hjI : (j : Int) < cs.length := by omega
      have hjz : (0 : Int) ≤ (j : Int) := by omega
      obtain ⟨m, hme⟩ : ∃ m, cs[j].length = m := ⟨_, rfl⟩
      rw [hme] at hc2
      have Hme := Lib.hid hme
      clear hme hW hW0 e0 e1
      by_cases h40 : (m : Int) > 40
      · go_wp2_with fail
        refine (awake_any _ (HT.out.below Hb.out)).mono ?_
        rintro e w9 ⟨rfl, hb9⟩
        have hb10 := bnext Hb.out hb9
        go_wp2_with fail
        go_ret
        exact ⟨rfl, hb10⟩
      · cases p with
        | true =>
          go_wp2_with fail
          go_quiet (fail)
          go_wp2_with fail
          go_roundw
          case rel => exact ⟨j + 1, true, by omega, by go_num, rfl, ⟨(fun h => by cases h), fun h => Hp.out.2 (fun t ht h2 => h t (by omega) h2)⟩, below_drewN Hbj.out _⟩
          case measure => simp [intOf] <;> omega
        | false =>
          by_cases hmN : m = N
          · have hq : ((m : Int) != (N : Int)) = false := by simp [hmN]
            have HmN := Lib.hid hmN
            clear hmN
            go_wp2_with fail
            go_quiet (fail)
            go_wp2_with fail
            go_roundw
            case rel =>
              refine ⟨j + 1, false, by omega, by go_num, rfl, ⟨fun _ t ht h2 => ?_, fun _ => rfl⟩, below_drewN Hbj.out _⟩
              by_cases h3 : t < j
              · exact Hp.out.1 (by first | rfl | trivial) t h3 h2
              · obtain rfl : t = j := by omega
                exact Hme.out.trans HmN.out
            case measure => simp [intOf] <;> omega
          · have hq : ((m : Int) != (N : Int)) = true := by rw [bne_iff_ne]; omega
            have HmN := Lib.hid hmN
            clear hmN
            go_wp2_with fail
            go_quiet (fail)
            go_wp2_with fail
            go_roundw
            case rel => exact ⟨j + 1, true, by omega, by go_num, rfl, ⟨(fun h => by cases h), fun h => absurd (Hme.out.symm.trans (h j (by omega) hjj)) HmN.out⟩, below_drewN Hbj.out _⟩
            case measure => simp [intOf] <;> omega
    · obtain rfl : j = cs.length := by omega
      have Hargi : Hid (argX (d : Int) cs ↔ ∀ t (h2 : t < cs.length), cs[t].length = N) := by
        constructor
        · intro h t h2
          rw [← HN.out]; exact h.2.2.2.2 _ (List.getElem_mem h2)
        · intro h
          have q := Hdc.out
          refine ⟨by omega, by omega, by omega, by omega, fun x hx => ?_⟩
          obtain ⟨t, ht, e⟩ := List.getElem_of_mem hx
          rw [← e, HN.out]; exact h t ht
      cases p with
      | true =>
        have Hbad : Hid (¬ argX (d : Int) cs) := fun h => by have := Hp.out.2 (fun t _ h2 => Hargi.out.1 h t h2); cases this
        have hkk : k = 1 ∧ Lv = 0 := by
          rcases Hk.out with ⟨-, h1, h2⟩ | ⟨h, -⟩ | ⟨h, -⟩
          · exact ⟨h1, h2⟩
          · exact absurd h Hbad.out
          · exact absurd h Hbad.out
        obtain ⟨rfl, rfl⟩ := hkk
        clear Hk Hbad HRB Hargi Hp
        go_wp2_with fail
        refine (awake_any _ (HT.out.below Hb.out)).mono ?_
        rintro e w9 ⟨rfl, hb9⟩
        have hb10 := bnext Hb.out hb9
        go_wp2_with fail
        go_ret
        exact ⟨rfl, hb10⟩
      | false =>
        have Harg : Hid (argX (d : Int) cs) := Hargi.out.2 (fun t h2 => Hp.out.1 (by first | rfl | trivial) t h2 h2)
        have HR := Lib.hid (HRB.out d rfl Harg.out wr Hb.out)
        clear HRB Hargi Hp
        go_wp2_with fail
        refine HR.out.mono ?_
        rintro e w5 ⟨hb5, ⟨hno, rfl⟩ | ⟨hyes, v, rfl, hown⟩⟩
        · have hkk : k = 10 ∧ Lv = 0 := by
            rcases Hk.out with ⟨h, -⟩ | ⟨-, -, h1, h2⟩ | ⟨-, h, -⟩
            · exact absurd Harg.out h
            · exact ⟨h1, h2⟩
            · exact absurd h hno
          obtain ⟨rfl, rfl⟩ := hkk
          have Hb := Lib.hid (bnext Hb.out hb5)
          clear Hk HR hb5 hno
          go_wp2_with fail
          refine (awake_any _ (HT.out.below Hb.out)).mono ?_
          rintro e w9 ⟨rfl, hb9⟩
          have hb10 := bnext Hb.out hb9
          go_wp2_with fail
          go_ret
          exact ⟨rfl, hb10⟩
        · have hkk : k = 0 ∧ Lv = (outX d (allX cs)).length ∧ Rd w2 Av (bv (outX d (allX cs))) := by
            rcases Hk.out with ⟨h, -⟩ | ⟨-, h, -⟩ | ⟨-, -, h⟩
            · exact absurd Harg.out h
            · exact absurd hyes h
            · exact h
          obtain ⟨rfl, rfl, hra⟩ := hkk
          obtain ⟨A3, c3, rfl, -, -, hr3, -⟩ := own_rd4 hown.out
          have hbig : (outX d (allX cs)).length < 9223372036854775807 := by
            have q := Hdc.out
            have h1 := outX_length d (allX cs)
            have h2 : (allX cs).length = N * cs.length := by rw [← smX_all, smX_length _ _ _ (Nat.zero_le _), HN.out, Nat.add_zero]
            have h3 : N ≤ 1000000000000 := H0.out ▸ Hlen.out _ (List.getElem_mem hcn0)
            rw [h1, h2]
            have h4 : N * cs.length * ((d + 7) / 8) ≤ 1000000000000 * 8 * 4 := Nat.mul_le_mul (Nat.mul_le_mul h3 q.2.2.2) (by omega)
            omega
          have HBy := Lib.hid (bytesQ_any (outX d (allX cs)) (outX d (allX cs)) Av A3 cv c3 w5 (hra.below (bnext Hbj.out hb5)) hr3 hbig)
          rw [decide_eq_true rfl] at HBy
          have Hb5 := Lib.hid (bnext Hb.out hb5)
          clear Hk HR hb5 hyes hown hra hr3 hbig
          go_wp2_with fail
          refine HBy.out.mono ?_
          rintro e w6 ⟨rfl, qd, rfl⟩
          have Hb := Lib.hid (below_drewN Hb5.out qd)
          go_wp2_with fail
          refine (awake_any _ (HT.out.below Hb.out)).mono ?_
          rintro e w9 ⟨rfl, hb9⟩
          have hb10 := bnext Hb.out hb9
          go_wp2_with fail
          go_ret
          exact ⟨rfl, hb10⟩
end Go.Proofs.YtibhhebfenkeaaaDoor
