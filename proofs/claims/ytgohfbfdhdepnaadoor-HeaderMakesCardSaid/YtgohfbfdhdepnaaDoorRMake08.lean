/-
  jetsamref08.Make: its walk.
-/
import Derived.Test.YtgohfbfdhdepnaaDoorRmL08
import Derived.Deep.DeepCutAuto
namespace Go.Proofs.YtgohfbfdhdepnaaDoor
open Go.RowKit

theorem wanted_un {l : List Oper} {a : Act} {o oj : Oper} {j : Nat} {d : Tmp} {b : Bool} (hg : o.guard = some (j, b)) (hj : l[j]? = some oj) (hd : oj.dst = some d) (hv : a.tmps.getD d undef = undef) : Region.wanted o (yielded l.toArray a.tmps) = false := by
  rw [Array.getD_eq_getD_getElem?] at hv
  simp only [Region.wanted, hg, yielded]
  cases h : a.tmps[d]? with
  | none => simp [hj, hd, h]
  | some v =>
    rw [h] at hv
    simp at hv
    subst hv
    simp [hj, hd, h, undef]
/-- The reference's Make, under way. -/
structure MkR (w W : World) (P R Hb : Nat) (rate chans depth : Int) (h : Hd) : Prop where
  p : W.heap[P]? = some (.cells #[.int .i64 rate, .int .i64 chans, .int .i64 depth] 38 (0, 0))
  r : HrAt W R Hd.zero
  h : HrAt W Hb h
  b : Below w.heap.size w W
  n1 : P ≠ Hb
  n2 : R ≠ Hb
  le : w.heap.size ≤ Hb
  ler : w.heap.size ≤ R
theorem MkR.below {w W W' : World} {P R Hb : Nat} {rate chans depth : Int} {h : Hd} (k : MkR w W P R Hb rate chans depth h) (hb : Below W.heap.size W W') : MkR w W' P R Hb rate chans depth h :=
  ⟨(hb.block _ (Array.getElem?_eq_some_iff.1 k.p).1).trans k.p, k.r.below hb, k.h.below hb, bnext k.b hb, k.n1, k.n2, k.le, k.ler⟩
theorem MkR.set {w W : World} {P R Hb : Nat} {rate chans depth : Int} {h : Hd} (k : MkR w W P R Hb rate chans depth h) (i : Nat) (v : Value) (h' : Hd) (e : h.cells.setIfInBounds i v = h'.cells) : MkR w (W.setCell ⟨Hb, i, none⟩ v) P R Hb rate chans depth h' :=
  ⟨row_other k.p k.n1 i v, row_other k.r k.n2 i v, k.h.set i v h' e, k.b.setCell (p := ⟨Hb, i, none⟩) k.le v, k.n1, k.n2, k.le, k.ler⟩
theorem MkR.p0 {w W : World} {P R Hb : Nat} {rate chans depth : Int} {h : Hd} (k : MkR w W P R Hb rate chans depth h) : W.cell? ⟨P, 0, none⟩ = some (.int .i64 rate) := cell_of_row _ _ _ _ _ _ k.p
theorem MkR.p2 {w W : World} {P R Hb : Nat} {rate chans depth : Int} {h : Hd} (k : MkR w W P R Hb rate chans depth h) : W.cell? ⟨P, 2, none⟩ = some (.int .i64 depth) := cell_of_row _ _ _ _ _ _ k.p
theorem MkR.fz {w W : World} {P R Hb : Nat} {rate chans depth : Int} {h : Hd} (k : MkR w W P R Hb rate chans depth h) (i : Nat) : W.frozen? ⟨Hb, i, none⟩ = false := frozen_of_row _ _ i _ _ k.h

set_option maxRecDepth 100000 in
set_option maxHeartbeats 16000000 in
theorem RMake_ok (V : Bool) (n b m rate chans depth : Int) (hbad : ¬ badM b rate depth) (hch : chanM m chans = 0) (w : World) :
    Calls Tryd.prog 16 #[.bool V, .int .i64 n, .int .i64 b, .int .i64 m, .agg #[.int .i64 rate, .int .i64 chans, .int .i64 depth]] w fun e w' => e = .returned (.tuple #[(mkH V n b m rate depth).val, .int .i64 0]) ∧ Below w.heap.size w w' := by
  have HX := Lib.hid (mkH_ref V n b m rate depth hbad)
  have hbad' : ¬ b < 1 ∧ ¬ 65535 < b ∧ ¬ rate < 0 ∧ ¬ 1048575 < rate ∧ ¬ depth < 4 ∧ ¬ 32 < depth := by unfold badM at hbad; omega
  obtain ⟨h1, h2, h3, h4, h5, h6⟩ := hbad'
  have h2' : ¬ b > 65535 := h2
  have h4' : ¬ rate > 1048575 := h4
  have h6' : ¬ depth > 32 := h6
  obtain ⟨c1, c2⟩ := fstE_two _ _ hch
  have hm : ¬ m < 0 ∧ ¬ m > 10 := by
    unfold chE at c1
    split at c1
    · cases c1
    · omega
  obtain ⟨hm0, hm10⟩ := hm
  have hcn : (chans != chN m) = false := by
    rw [bne_eq_false_iff_eq]
    by_cases h : chN m = chans
    · exact h.symm
    · have : (chN m != chans) = true := by rw [bne_iff_ne]; exact h
      rw [this] at c2; simp at c2
  have HcnE : Hid (chN m = if m < 8 then m + 1 else 2) := by show _ = _; rw [chN, if_neg (by omega)]
  have HcB : Hid (bcF b = if bcR b 15 = 0 then (if b ≤ 256 then 6 else 7) else bcR b 15) := rfl
  generalize bcF b = BF at *
  generalize mkH V n b m rate depth = MH at *
  have Hr63 : Hid (rate ≤ 1048575) := by show rate ≤ 1048575; omega
  clear hbad hch c1 c2 h2 h4 h6
  generalize chN m = cn at *
  obtain ⟨w2, hw2⟩ : ∃ w2, (w.alloc (.cells #[.int .i64 rate, .int .i64 chans, .int .i64 depth] 38)).alloc (.cells Hd.zero.cells 26) = w2 := ⟨_, rfl⟩
  have hs2 : w2.heap.size = w.heap.size + 1 + 1 := by rw [← hw2]; simp
  have hp2 : w2.heap[w.heap.size]? = some (.cells #[.int .i64 rate, .int .i64 chans, .int .i64 depth] 38 (0, 0)) := by rw [← hw2]; exact hrow_alloc (heap_alloc_last w _) _
  have hr2 : HrAt w2 (w.heap.size + 1) Hd.zero := by
    have h := heap_alloc_last (w.alloc (.cells #[.int .i64 rate, .int .i64 chans, .int .i64 depth] 38)) (.cells Hd.zero.cells 26)
    rw [World.size_alloc] at h
    rw [← hw2]
    exact h
  have hb2 : Below w.heap.size w w2 := by rw [← hw2]; exact bal (bal (Below.refl _ _) _) _
  have hq1 := cell_of_row w2 _ 0 _ _ _ hp2
  have hq2 := cell_of_row w2 _ 1 _ _ _ hp2
  have hq3 := cell_of_row w2 _ 2 _ _ _ hp2
  simp only [List.getElem?_toArray, List.getElem?_cons_zero, List.getElem?_cons_succ] at hq1 hq2 hq3
  simp only [Hd.zero, Hd.cells] at hw2
  have Hw2 := Lib.hid hw2
  clear hw2
  go_enter Tryd.func16, Tryd.ntmps16
  go_upto_region 1 with fail
  rw [Hw2.out]
  clear Hw2
  go_upto_if 53 with fail
  go_cut [12] (fun v wx => v = .int .i64 cn ∧ w2 = wx)
  case first =>
    by_cases m8 : m < 8
    · have e : Hid (cn = m + 1) := HcnE.out.trans (if_pos m8)
      go_wp2_with fail
      go_meet
      exact ⟨by rw [e.out], rfl⟩
    · have e : Hid (cn = 2) := HcnE.out.trans (if_neg m8)
      go_wp2_with fail
      go_meet
      exact ⟨by rw [e.out], rfl⟩
  case rest =>
    obtain ⟨rfl, rfl⟩ := hcut
    have HN : Hid (∀ h : Hd, MkR w (w2.alloc (.cells h.cells 26)) w.heap.size (w.heap.size + 1) (w.heap.size + 1 + 1) rate chans depth h) := fun h => ⟨hrow_alloc hp2 _, hrow_alloc hr2 _, by rw [← hs2]; exact heap_alloc_last w2 _, bal hb2 _, by omega, by omega, by omega, by omega⟩
    go_upto_region 11 with fail
    have HM0 : Hid (MkR w (w2.alloc (.cells (Hd.mk V 0 0 m 0 n b 0 0).cells 26)) w.heap.size (w.heap.size + 1) (w.heap.size + 1 + 1) rate chans depth ⟨V, 0, 0, m, 0, n, b, 0, 0⟩) := HN.out _
    simp only [Hd.cells] at HM0
    generalize w2.alloc (.cells #[.bool V, .int .i64 0, .int .i64 0, .int .i64 m, .int .i64 0, .int .i64 n, .int .i64 b, .int .i64 0, .int .i64 0] 26) = w3 at *
    obtain ⟨H0, hH0⟩ : ∃ H0, w.heap.size + 1 + 1 = H0 := ⟨_, rfl⟩
    rw [hH0] at HM0 ⊢
    obtain ⟨R0, hR0⟩ : ∃ R0, w.heap.size + 1 = R0 := ⟨_, rfl⟩
    rw [hR0] at HM0 ⊢
    obtain ⟨P0, hP0⟩ : ∃ P0, w.heap.size = P0 := ⟨_, rfl⟩
    have HM1 : Hid (MkR w w3 P0 R0 H0 rate chans depth ⟨V, 0, 0, m, 0, n, b, 0, 0⟩) := by rw [← hP0]; exact HM0.out
    rw [hP0]
    clear HM0 HN hH0 hR0 hP0 hp2 hr2 hb2 hs2 hq1 hq2 hq3 HcnE hcn h1 h2' h3 h4' h5 h6' hm0 hm10
    go_wp2_with fail
    go_loopw [14] (fun c wr => ∃ k : Nat, k ≤ 15 ∧ c = .int .i64 ((k + 1 : Nat) : Int) ∧ Hid (MkR w wr P0 R0 H0 rate chans depth ⟨V, bcR b k, 0, m, 0, n, b, 0, 0⟩)) (fun c _ => (16 - intOf c).toNat)
    case atStart => exact ⟨0, by omega, rfl, HM1⟩
    case round =>
      obtain ⟨k, hk, rfl, HMk⟩ := hrel
      by_cases hkk : k < 15
      · have HBk := Lib.hid (fun W => Block_any ((k + 1 : Nat) : Int) W)
        have Hcn : Hid (bcR b (k + 1) = if ofT refBlk ((k + 1 : Nat) : Int) = b ∧ bcR b k = 0 then ((k + 1 : Nat) : Int) else bcR b k) := rfl
        have hc15 : ((k + 1 : Nat) : Int) ≤ 15 := by omega
        have Hnx : Hid (((k + 1 : Nat) : Int) + 1 = ((k + 1 + 1 : Nat) : Int)) := by show _ = _; omega
        obtain ⟨c, hc⟩ : ∃ c : Int, ((k + 1 : Nat) : Int) = c := ⟨_, rfl⟩
        rw [hc] at HBk Hcn hc15 Hnx ⊢
        have hc0 : 0 ≤ c := by omega
        have Hc := Lib.hid hc
        clear hc
        generalize ofT refBlk c = xb at *
        generalize bcR b k = z at *
        go_wp2_with fail
        refine (HBk.out _).mono ?_
        rintro e w4 ⟨rfl, hb4⟩
        have HM4 : Hid (MkR w w4 P0 R0 H0 rate chans depth ⟨V, z, 0, m, 0, n, b, 0, 0⟩) := HMk.out.below hb4
        clear HMk hb4 HBk
        have f1 := HM4.out.h.c 1 (.int .i64 z) rfl
        have fz := HM4.out.fz 1
        by_cases e1 : xb = b
        · have e1' : (xb == b) = true := by rw [beq_iff_eq]; exact e1
          by_cases e2 : z = 0
          · have hz : bcR b (k + 1) = c := by rw [Hcn.out, if_pos ⟨e1, e2⟩]
            have e2' : (z == 0) = true := by rw [beq_iff_eq]; exact e2
            have HM5 : Hid (MkR w (w4.setCell ⟨H0, 1, none⟩ (.int .i64 c)) P0 R0 H0 rate chans depth ⟨V, c, 0, m, 0, n, b, 0, 0⟩) := HM4.out.set 1 _ _ rfl
            clear Hcn e1 e2
            go_wp2_with fail
            go_roundw
            case rel => exact ⟨k + 1, by omega, by rw [← Hnx.out], by rw [hz]; exact HM5⟩
            case measure => have := Hc.out; simp [intOf] <;> omega
          · have hz : bcR b (k + 1) = z := by rw [Hcn.out, if_neg (fun h => e2 h.2)]
            have e2' : (z == 0) = false := by rw [beq_eq_false_iff_ne]; exact e2
            clear Hcn e1 e2
            go_wp2_with fail
            go_roundw
            case rel => exact ⟨k + 1, by omega, by rw [← Hnx.out], by rw [hz]; exact HM4⟩
            case measure => have := Hc.out; simp [intOf] <;> omega
        · have e1' : (xb == b) = false := by rw [beq_eq_false_iff_ne]; exact e1
          have hz : bcR b (k + 1) = z := by rw [Hcn.out, if_neg (fun h => e1 h.1)]
          clear Hcn e1
          go_wp2_with fail
          go_roundw
          case rel => exact ⟨k + 1, by omega, by rw [← Hnx.out], by rw [hz]; exact HM4⟩
          case measure => have := Hc.out; simp [intOf] <;> omega
      · obtain rfl : k = 15 := by omega
        rw [show ((15 + 1 : Nat) : Int) = 16 from rfl]
        clear HM1
        have f1 := HMk.out.h.c 1 (.int .i64 (bcR b 15)) rfl
        have fz := HMk.out.fz 1
        generalize bcR b 15 = z at *
        go_upto_region 16 with fail
        obtain ⟨q87, hq87⟩ : ∃ q87 : Bool, (decide (z = 0) && decide (b ≤ 256)) = q87 := ⟨_, rfl⟩
        have Hq87 := Lib.hid hq87
        clear hq87
        go_cut [87] (fun v wx => v = .bool q87 ∧ wr = wx)
        case first =>
          by_cases e2 : z = 0
          · have e2' : (z == 0) = true := by rw [beq_iff_eq]; exact e2
            have e5 : Hid (q87 = decide (b ≤ 256)) := by show _ = _; rw [← Hq87.out, decide_eq_true e2]; rfl
            clear Hq87 e2
            go_wp2_with fail
            go_meet
            exact ⟨by rw [e5.out], rfl⟩
          · have e2' : (z == 0) = false := by rw [beq_eq_false_iff_ne]; exact e2
            have e5 : Hid (q87 = false) := by show _ = _; rw [← Hq87.out, decide_eq_false e2]; rfl
            clear Hq87 e2
            go_wp2_with fail
            go_meet
            exact ⟨by rw [e5.out], rfl⟩
        case rest =>
          obtain ⟨rfl, rfl⟩ := hcut
          go_upto_if 87 with fail
          go_cut [] (fun wx => MkR w wx P0 R0 H0 rate chans depth ⟨V, if q87 then 6 else z, 0, m, 0, n, b, 0, 0⟩)
          case first =>
            clear Hq87
            cases q87
            · go_wp2_with fail
              go_meet
              exact HMk.out
            · go_wp2_with fail
              go_meet
              exact HMk.out.set 1 _ _ rfl
          case rest =>
            obtain ⟨w5, hw5⟩ : ∃ w5, wc = w5 := ⟨_, rfl⟩
            rw [hw5] at hcut ⊢
            clear hw5 HMk f1 fz
            have HM5 := Lib.hid hcut
            clear hcut
            have hBF : Hid (BF = if (if q87 then 6 else z) = 0 then 7 else (if q87 then 6 else z)) := by
              show _ = _
              rw [HcB.out, ← Hq87.out]
              by_cases e2 : z = 0
              · by_cases e3 : b ≤ 256
                · simp [e2, e3]
                · simp [e2, e3]
              · simp [e2]
            clear HcB Hq87
            generalize (if q87 then 6 else z) = y at *
            have f1 := HM5.out.h.c 1 (.int .i64 y) rfl
            have fz := HM5.out.fz 1
            go_upto_if 91 with fail
            go_cut [] (fun wx => MkR w wx P0 R0 H0 rate chans depth ⟨V, BF, 0, m, 0, n, b, 0, 0⟩)
            case first =>
              by_cases e2 : y = 0
              · have e2' : (y == 0) = true := by rw [beq_iff_eq]; exact e2
                have e4 : Hid (BF = 7) := hBF.out.trans (if_pos e2)
                go_wp2_with fail
                go_meet
                rw [e4.out]
                exact HM5.out.set 1 _ _ rfl
              · have e2' : (y == 0) = false := by rw [beq_eq_false_iff_ne]; exact e2
                have e4 : Hid (BF = y) := hBF.out.trans (if_neg e2)
                go_wp2_with fail
                go_meet
                rw [e4.out]
                exact HM5.out
            case rest =>
              obtain ⟨w6, hw6⟩ : ∃ w6, wc = w6 := ⟨_, rfl⟩
              rw [hw6] at hcut ⊢
              clear hw6 HM5 f1 fz hBF
              have HM6 := Lib.hid hcut
              clear hcut
              go_wp2_with fail
              go_loopw [15, 16] (fun c tp wr => ∃ k : Nat, k ≤ 14 ∧ (0 < rate ∨ k = 0) ∧ c = .int .i64 ((k + 1 : Nat) : Int) ∧ Hid (MkR w wr P0 R0 H0 rate chans depth ⟨V, BF, rcR rate k, m, 0, n, b, if rcR rate k = 0 then 0 else rate, 0⟩)) (fun c _ _ => (15 - intOf c).toNat)
              case atStart => exact ⟨0, by omega, .inr rfl, rfl, HM6⟩
              case round =>
                obtain ⟨k, hk, hkr, rfl, HMk⟩ := hrel
                have fp := HMk.out.p0
                by_cases hr0 : 0 < rate
                case neg =>
                  obtain rfl : k = 0 := by omega
                  rw [show ((0 + 1 : Nat) : Int) = 1 from rfl]
                  have HM7 : Hid (MkR w wr P0 R0 H0 rate chans depth ⟨V, BF, 0, m, 0, n, b, 0, 0⟩) := HMk.out
                  have HX2 : Hid (MH = ⟨V, BF, 0, m, dcR depth 7, n, b, 0, ddR depth 7⟩) := by show _ = _; rw [HX.out, if_neg hr0, if_neg hr0]
                  have hr0' : ¬ rate > 0 := hr0
                  clear HMk HM6 HX hr0
                  go_upto_region 29 with fail
                  clear fp hr0' hkr hk
                  go_wp2_with fail
                  go_loopw [17] (fun c wr => ∃ k : Nat, k ≤ 7 ∧ c = .int .i64 ((k + 1 : Nat) : Int) ∧ Hid (MkR w wr P0 R0 H0 rate chans depth ⟨V, BF, 0, m, dcR depth k, n, b, 0, ddR depth k⟩)) (fun c _ => (8 - intOf c).toNat)
                  case atStart => exact ⟨0, by omega, rfl, HM7⟩
                  case round =>
                    obtain ⟨k, hk, rfl, HMk⟩ := hrel
                    clear HM7
                    by_cases hkk : k < 7
                    · have HDp := Lib.hid (fun W => Depth_any ((k + 1 : Nat) : Int) W)
                      have Hcn : Hid (dcR depth (k + 1) = if ofT depL ((k + 1 : Nat) : Int) = depth then ((k + 1 : Nat) : Int) else dcR depth k) := rfl
                      have Hdn : Hid (ddR depth (k + 1) = if ofT depL ((k + 1 : Nat) : Int) = depth then depth else ddR depth k) := rfl
                      have hc7 : ((k + 1 : Nat) : Int) ≤ 7 := by omega
                      have Hnx : Hid (((k + 1 : Nat) : Int) + 1 = ((k + 1 + 1 : Nat) : Int)) := by show _ = _; omega
                      obtain ⟨c, hc⟩ : ∃ c : Int, ((k + 1 : Nat) : Int) = c := ⟨_, rfl⟩
                      rw [hc] at HDp Hcn Hdn hc7 Hnx ⊢
                      have hc0 : 1 ≤ c := by omega
                      have Hc := Lib.hid hc
                      clear hc
                      generalize ofT depL c = xd at *
                      obtain ⟨w1, hw1⟩ : ∃ w1, wr = w1 := ⟨_, rfl⟩
                      rw [hw1] at HMk ⊢
                      clear hw1
                      have HM := HMk
                      clear HMk
                      go_wp2_with fail
                      refine wp_region_specs [
                        Spec.val (.int .i64 c),
                        Spec.val (.int .i64 xd),
                        Spec.val (.pointer (some ⟨P0, 2, none⟩)),
                        Spec.val (.int .i64 depth),
                        Spec.val (.bool (xd == depth))] w1 (by kernel_rfl) (by repeat (first | exact Below.refl _ _ | assumption | refine below_drewN ?_ _ | refine Below.drew ?_ | refine Below.alloc ?_ (Nat.le_refl _) _ | refine bal ?_ _ | refine bnext ?_ (by assumption))) (n := 155) rfl (by decide +kernel) ⟨?_, ?_, ?_, ?_, ?_, trivial⟩ ?_
                      · intro ac wd hJ hfr hdep
                        have s17 : ac.tmps.getD 17 undef = .int .i64 c := (hfr 17 (by decide)).trans rfl
                        have s17' := slot' s17
                        clear hfr hdep
                        refine if_wanted rfl (fun Q => op_any (fun K hK => ?_))
                        go_simp
                        exact hK _ _ rfl hJ (Below.refl _ _)
                      · intro ac wd hJ hfr hdep
                        have s144 : ac.tmps.getD 144 undef = .int .i64 c := hdep 0 _ 144 (by decide) rfl rfl
                        have s144' := slot' s144
                        clear hfr hdep
                        refine if_wanted rfl (fun Q => op_any (fun K hK => ?_))
                        go_simp
                        refine (HDp.out _).mono ?_
                        rintro e wz ⟨rfl, hbz⟩
                        exact hK _ _ rfl (bnext hJ hbz) hbz
                      · intro ac wd hJ hfr hdep
                        have s9 : ac.tmps.getD 9 undef = .pointer (some ⟨P0, 0, none⟩) := (hfr 9 (by decide)).trans rfl
                        have s9' := slot' s9
                        clear hfr hdep
                        refine if_wanted rfl (fun Q => op_any (fun K hK => ?_))
                        go_simp
                        exact hK _ _ rfl hJ (Below.refl _ _)
                      · intro ac wd hJ hfr hdep
                        have s146 : ac.tmps.getD 146 undef = .pointer (some ⟨P0, 2, none⟩) := hdep 2 _ 146 (by decide) rfl rfl
                        have s146' := slot' s146
                        clear hfr hdep
                        refine if_wanted rfl (fun Q => op_any (fun K hK => ?_))
                        have hq := (HM.out.below hJ).p2
                        go_simp
                        exact hK _ _ rfl hJ (Below.refl _ _)
                      · intro ac wd hJ hfr hdep
                        have s145 : ac.tmps.getD 145 undef = .int .i64 xd := hdep 1 _ 145 (by decide) rfl rfl
                        have s147 : ac.tmps.getD 147 undef = .int .i64 depth := hdep 3 _ 147 (by decide) rfl rfl
                        have s145' := slot' s145
                        have s147' := slot' s147
                        clear hfr hdep
                        refine if_wanted rfl (fun Q => op_any (fun K hK => ?_))
                        go_simp
                        exact hK _ _ rfl hJ (Below.refl _ _)
                      intro f w3 hJ3 hR
                      have e0 : f 0 = .int .i64 c := hR 0 (by decide)
                      have e1 : f 1 = .int .i64 xd := hR 1 (by decide)
                      have e2 : f 2 = .pointer (some ⟨P0, 2, none⟩) := hR 2 (by decide)
                      have e3 : f 3 = .int .i64 depth := hR 3 (by decide)
                      have e4 : f 4 = .bool (xd == depth) := hR 4 (by decide)
                      clear hR
                      simp only [finA, Act.put, List.setIfInBounds_toArray, List.set_cons_succ, List.set_cons_zero, Nat.reduceAdd, e0, e1, e2, e3, e4]
                      clear e0 e1 e2 e3 e4
                      have HM3 := Lib.hid (HM.out.below hJ3)
                      clear HM hJ3 HDp
                      have f4 := HM3.out.h.c 4 (.int .i64 (dcR depth k)) rfl
                      have z4 := HM3.out.fz 4
                      by_cases e1 : xd = depth
                      · have e1' : (xd == depth) = true := by rw [beq_iff_eq]; exact e1
                        have hz : dcR depth (k + 1) = c := by rw [Hcn.out, if_pos e1]
                        have hz2 : ddR depth (k + 1) = depth := by rw [Hdn.out, if_pos e1]
                        have HM4 := Lib.hid (HM3.out.set 4 (.int .i64 c) ⟨V, BF, 0, m, c, n, b, 0, ddR depth k⟩ rfl)
                        have f8 := HM4.out.h.c 8 (.int .i64 (ddR depth k)) rfl
                        have z8 := HM4.out.fz 8
                        have p2 := HM4.out.p2
                        have HM5 := Lib.hid (HM4.out.set 8 (.int .i64 depth) ⟨V, BF, 0, m, c, n, b, 0, depth⟩ rfl)
                        clear Hcn Hdn e1
                        go_wp2_with fail
                        go_roundw
                        case rel => exact ⟨k + 1, by omega, by rw [← Hnx.out], by rw [hz, hz2]; exact HM5⟩
                        case measure => have := Hc.out; simp [intOf] <;> omega
                      · have e1' : (xd == depth) = false := by rw [beq_eq_false_iff_ne]; exact e1
                        have hz : dcR depth (k + 1) = dcR depth k := by rw [Hcn.out, if_neg e1]
                        have hz2 : ddR depth (k + 1) = ddR depth k := by rw [Hdn.out, if_neg e1]
                        clear Hcn Hdn e1
                        go_wp2_with fail
                        go_roundw
                        case rel => exact ⟨k + 1, by omega, by rw [← Hnx.out], by rw [hz, hz2]; exact HM3⟩
                        case measure => have := Hc.out; simp [intOf] <;> omega
                    · obtain rfl : k = 7 := by omega
                      have HM9 : Hid (MkR w wr P0 R0 H0 rate chans depth MH) := by rw [HX2.out]; exact HMk.out
                      clear HMk HX2
                      go_wp2_with (first | (refine wpList_load_row rfl 26 _ rfl H0 rfl 26 MH.cells (0, 0) _ HM9.out.h Tryd.underlying26 rfl (by kernel_rfl) ?_) | (refine wpList_store_row (c := Hd.zero.cells) (c' := MH.cells) (t := 26) rfl 26 _ _ rfl R0 rfl rfl HM9.out.r (by kernel_rfl) rfl (Hd.one _) ?_))
                      exact bodyPost_ret (results_row_tmp (cs := MH.cells) (t := 26) (fr := (0, 0)) (g := R0) Tryd.results16 _ _ _ rfl rfl (setRow_heap _ R0 _ _ 26 (0, 0) HM9.out.r) Tryd.underlying26 rfl (by kernel_rfl)) rfl ⟨rfl, Below.setRow HM9.out.b HM9.out.ler _⟩
                have hr0' : rate > 0 := hr0
                by_cases hkk : k < 14
                case neg =>
                  obtain rfl : k = 14 := by omega
                  rw [show ((14 + 1 : Nat) : Int) = 15 from rfl]
                  have HX2 : Hid (MH = ⟨V, BF, rcR rate 14, m, dcR depth 7, n, b, if rcR rate 14 = 0 then 0 else rate, ddR depth 7⟩) := by show _ = _; rw [HX.out, if_pos hr0, if_pos hr0]
                  have HM7 := Lib.hid HMk.out
                  generalize (if rcR rate 14 = 0 then 0 else rate) = RR at *
                  generalize rcR rate 14 = RC at *
                  clear HMk HM6 HX
                  go_upto_region 29 with fail
                  clear fp hr0' hkr hk hr0
                  go_wp2_with fail
                  go_loopw [17] (fun c wr => ∃ k : Nat, k ≤ 7 ∧ c = .int .i64 ((k + 1 : Nat) : Int) ∧ Hid (MkR w wr P0 R0 H0 rate chans depth ⟨V, BF, RC, m, dcR depth k, n, b, RR, ddR depth k⟩)) (fun c _ => (8 - intOf c).toNat)
                  case atStart => exact ⟨0, by omega, rfl, HM7⟩
                  case round =>
                    obtain ⟨k, hk, rfl, HMk⟩ := hrel
                    clear HM7
                    by_cases hkk : k < 7
                    · have HDp := Lib.hid (fun W => Depth_any ((k + 1 : Nat) : Int) W)
                      have Hcn : Hid (dcR depth (k + 1) = if ofT depL ((k + 1 : Nat) : Int) = depth then ((k + 1 : Nat) : Int) else dcR depth k) := rfl
                      have Hdn : Hid (ddR depth (k + 1) = if ofT depL ((k + 1 : Nat) : Int) = depth then depth else ddR depth k) := rfl
                      have hc7 : ((k + 1 : Nat) : Int) ≤ 7 := by omega
                      have Hnx : Hid (((k + 1 : Nat) : Int) + 1 = ((k + 1 + 1 : Nat) : Int)) := by show _ = _; omega
                      obtain ⟨c, hc⟩ : ∃ c : Int, ((k + 1 : Nat) : Int) = c := ⟨_, rfl⟩
                      rw [hc] at HDp Hcn Hdn hc7 Hnx ⊢
                      have hc0 : 1 ≤ c := by omega
                      have Hc := Lib.hid hc
                      clear hc
                      generalize ofT depL c = xd at *
                      obtain ⟨w1, hw1⟩ : ∃ w1, wr = w1 := ⟨_, rfl⟩
                      rw [hw1] at HMk ⊢
                      clear hw1
                      have HM := HMk
                      clear HMk
                      go_wp2_with fail
                      refine wp_region_specs [
                        Spec.val (.int .i64 c),
                        Spec.val (.int .i64 xd),
                        Spec.val (.pointer (some ⟨P0, 2, none⟩)),
                        Spec.val (.int .i64 depth),
                        Spec.val (.bool (xd == depth))] w1 (by kernel_rfl) (by repeat (first | exact Below.refl _ _ | assumption | refine below_drewN ?_ _ | refine Below.drew ?_ | refine Below.alloc ?_ (Nat.le_refl _) _ | refine bal ?_ _ | refine bnext ?_ (by assumption))) (n := 155) rfl (by decide +kernel) ⟨?_, ?_, ?_, ?_, ?_, trivial⟩ ?_
                      · intro ac wd hJ hfr hdep
                        have s17 : ac.tmps.getD 17 undef = .int .i64 c := (hfr 17 (by decide)).trans rfl
                        have s17' := slot' s17
                        clear hfr hdep
                        refine if_wanted rfl (fun Q => op_any (fun K hK => ?_))
                        go_simp
                        exact hK _ _ rfl hJ (Below.refl _ _)
                      · intro ac wd hJ hfr hdep
                        have s144 : ac.tmps.getD 144 undef = .int .i64 c := hdep 0 _ 144 (by decide) rfl rfl
                        have s144' := slot' s144
                        clear hfr hdep
                        refine if_wanted rfl (fun Q => op_any (fun K hK => ?_))
                        go_simp
                        refine (HDp.out _).mono ?_
                        rintro e wz ⟨rfl, hbz⟩
                        exact hK _ _ rfl (bnext hJ hbz) hbz
                      · intro ac wd hJ hfr hdep
                        have s9 : ac.tmps.getD 9 undef = .pointer (some ⟨P0, 0, none⟩) := (hfr 9 (by decide)).trans rfl
                        have s9' := slot' s9
                        clear hfr hdep
                        refine if_wanted rfl (fun Q => op_any (fun K hK => ?_))
                        go_simp
                        exact hK _ _ rfl hJ (Below.refl _ _)
                      · intro ac wd hJ hfr hdep
                        have s146 : ac.tmps.getD 146 undef = .pointer (some ⟨P0, 2, none⟩) := hdep 2 _ 146 (by decide) rfl rfl
                        have s146' := slot' s146
                        clear hfr hdep
                        refine if_wanted rfl (fun Q => op_any (fun K hK => ?_))
                        have hq := (HM.out.below hJ).p2
                        go_simp
                        exact hK _ _ rfl hJ (Below.refl _ _)
                      · intro ac wd hJ hfr hdep
                        have s145 : ac.tmps.getD 145 undef = .int .i64 xd := hdep 1 _ 145 (by decide) rfl rfl
                        have s147 : ac.tmps.getD 147 undef = .int .i64 depth := hdep 3 _ 147 (by decide) rfl rfl
                        have s145' := slot' s145
                        have s147' := slot' s147
                        clear hfr hdep
                        refine if_wanted rfl (fun Q => op_any (fun K hK => ?_))
                        go_simp
                        exact hK _ _ rfl hJ (Below.refl _ _)
                      intro f w3 hJ3 hR
                      have e0 : f 0 = .int .i64 c := hR 0 (by decide)
                      have e1 : f 1 = .int .i64 xd := hR 1 (by decide)
                      have e2 : f 2 = .pointer (some ⟨P0, 2, none⟩) := hR 2 (by decide)
                      have e3 : f 3 = .int .i64 depth := hR 3 (by decide)
                      have e4 : f 4 = .bool (xd == depth) := hR 4 (by decide)
                      clear hR
                      simp only [finA, Act.put, List.setIfInBounds_toArray, List.set_cons_succ, List.set_cons_zero, Nat.reduceAdd, e0, e1, e2, e3, e4]
                      clear e0 e1 e2 e3 e4
                      have HM3 := Lib.hid (HM.out.below hJ3)
                      clear HM hJ3 HDp
                      have f4 := HM3.out.h.c 4 (.int .i64 (dcR depth k)) rfl
                      have z4 := HM3.out.fz 4
                      by_cases e1 : xd = depth
                      · have e1' : (xd == depth) = true := by rw [beq_iff_eq]; exact e1
                        have hz : dcR depth (k + 1) = c := by rw [Hcn.out, if_pos e1]
                        have hz2 : ddR depth (k + 1) = depth := by rw [Hdn.out, if_pos e1]
                        have HM4 := Lib.hid (HM3.out.set 4 (.int .i64 c) ⟨V, BF, RC, m, c, n, b, RR, ddR depth k⟩ rfl)
                        have f8 := HM4.out.h.c 8 (.int .i64 (ddR depth k)) rfl
                        have z8 := HM4.out.fz 8
                        have p2 := HM4.out.p2
                        have HM5 := Lib.hid (HM4.out.set 8 (.int .i64 depth) ⟨V, BF, RC, m, c, n, b, RR, depth⟩ rfl)
                        clear Hcn Hdn e1
                        go_wp2_with fail
                        go_roundw
                        case rel => exact ⟨k + 1, by omega, by rw [← Hnx.out], by rw [hz, hz2]; exact HM5⟩
                        case measure => have := Hc.out; simp [intOf] <;> omega
                      · have e1' : (xd == depth) = false := by rw [beq_eq_false_iff_ne]; exact e1
                        have hz : dcR depth (k + 1) = dcR depth k := by rw [Hcn.out, if_neg e1]
                        have hz2 : ddR depth (k + 1) = ddR depth k := by rw [Hdn.out, if_neg e1]
                        clear Hcn Hdn e1
                        go_wp2_with fail
                        go_roundw
                        case rel => exact ⟨k + 1, by omega, by rw [← Hnx.out], by rw [hz, hz2]; exact HM3⟩
                        case measure => have := Hc.out; simp [intOf] <;> omega
                    · obtain rfl : k = 7 := by omega
                      have HM9 : Hid (MkR w wr P0 R0 H0 rate chans depth MH) := by rw [HX2.out]; exact HMk.out
                      clear HMk HX2
                      go_wp2_with (first | (refine wpList_load_row rfl 26 _ rfl H0 rfl 26 MH.cells (0, 0) _ HM9.out.h Tryd.underlying26 rfl (by kernel_rfl) ?_) | (refine wpList_store_row (c := Hd.zero.cells) (c' := MH.cells) (t := 26) rfl 26 _ _ rfl R0 rfl rfl HM9.out.r (by kernel_rfl) rfl (Hd.one _) ?_))
                      exact bodyPost_ret (results_row_tmp (cs := MH.cells) (t := 26) (fr := (0, 0)) (g := R0) Tryd.results16 _ _ _ rfl rfl (setRow_heap _ R0 _ _ 26 (0, 0) HM9.out.r) Tryd.underlying26 rfl (by kernel_rfl)) rfl ⟨rfl, Below.setRow HM9.out.b HM9.out.ler _⟩
                have HRt := Lib.hid (fun W => Rate_any ((k + 1 : Nat) : Int) W)
                have HU0 := Lib.hid (fun W => Unit_any ((k + 1 : Nat) : Int) W)
                have Hcn : Hid (rcR rate (k + 1) = if rcR rate k = 0 ∧ hitR rate ((k + 1 : Nat) : Int) then ((k + 1 : Nat) : Int) else rcR rate k) := rfl
                have hc15 : ((k + 1 : Nat) : Int) ≤ 14 := by omega
                have Hnx : Hid (((k + 1 : Nat) : Int) + 1 = ((k + 1 + 1 : Nat) : Int)) := by show _ = _; omega
                obtain ⟨c, hc⟩ : ∃ c : Int, ((k + 1 : Nat) : Int) = c := ⟨_, rfl⟩
                rw [hc] at HRt HU0 Hcn hc15 Hnx ⊢
                have hc0 : 1 ≤ c := by omega
                have Hc := Lib.hid hc
                clear hc HM6 HX
                have Hxr : Hid (hitR rate c ↔ (ofT ratL c = rate ∨ (12 ≤ c ∧ rate % unU c = 0 ∧ rate / unU c ≤ topR c))) := Iff.rfl
                generalize ofT ratL c = xr at *
                go_upto_if 103 with fail
                go_cut [16] (fun v wx => v = .int .i64 (topR c) ∧ wr = wx)
                case first =>
                  by_cases c12 : c = 12
                  · have c12' : (c == 12) = true := by rw [beq_iff_eq]; exact c12
                    have e : Hid (topR c = 255) := if_pos c12
                    go_wp2_with fail
                    go_meet
                    exact ⟨by rw [e.out], rfl⟩
                  · have c12' : (c == 12) = false := by rw [beq_eq_false_iff_ne]; exact c12
                    have e : Hid (topR c = 65535) := if_neg c12
                    go_wp2_with fail
                    go_meet
                    exact ⟨by rw [e.out], rfl⟩
                case rest =>
                  obtain ⟨rfl, rfl⟩ := hcut
                  obtain ⟨w1, hw1⟩ : ∃ w1, wr = w1 := ⟨_, rfl⟩
                  rw [hw1] at HMk ⊢
                  clear hw1 fp hr0'
                  have HM := HMk
                  clear HMk
                  obtain ⟨rz, hrz⟩ : ∃ rz, rcR rate k = rz := ⟨_, rfl⟩
                  rw [hrz] at HM Hcn
                  clear hrz
                  obtain ⟨rr0, hrr0⟩ : ∃ rr0, (if rz = 0 then 0 else rate) = rr0 := ⟨_, rfl⟩
                  rw [hrr0] at HM
                  have Hrr0 := Lib.hid hrr0
                  clear hrr0
                  go_upto_region 26 with fail
                  by_cases z0 : rz = 0
                  case neg =>
                    have z0' : (rz == 0) = false := by rw [beq_eq_false_iff_ne]; exact z0
                    have hz : rcR rate (k + 1) = rz := by rw [Hcn.out, if_neg (fun h => z0 h.1)]
                    clear Hcn Hxr z0
                    refine wp_region_specs [
                      Spec.val (.pointer (some ⟨H0, 2, none⟩)),
                      Spec.val (.int .i64 rz),
                      Spec.val (.bool false),
                      Spec.val (.bool false),
                      Spec.val (undef),
                      Spec.val (undef),
                      Spec.val (undef),
                      Spec.val (undef),
                      Spec.val (undef),
                      Spec.val (undef),
                      Spec.val (undef),
                      Spec.val (undef),
                      Spec.val (undef),
                      Spec.val (undef),
                      Spec.val (undef),
                      Spec.val (undef),
                      Spec.val (undef),
                      Spec.val (undef),
                      Spec.val (undef),
                      Spec.val (undef),
                      Spec.val (undef),
                      Spec.val (undef),
                      Spec.val (undef),
                      Spec.val (undef),
                      Spec.val (undef),
                      Spec.val (undef),
                      Spec.val (undef),
                      Spec.val (undef),
                      Spec.val (undef),
                      Spec.val (undef),
                      Spec.val ((Value.bool false))] w1 (by kernel_rfl) (by repeat (first | exact Below.refl _ _ | assumption | refine below_drewN ?_ _ | refine Below.drew ?_ | refine Below.alloc ?_ (Nat.le_refl _) _ | refine bal ?_ _ | refine bnext ?_ (by assumption))) (n := 155) rfl (by decide +kernel) ⟨?_, ?_, ?_, ?_, ?_, ?_, ?_, ?_, ?_, ?_, ?_, ?_, ?_, ?_, ?_, ?_, ?_, ?_, ?_, ?_, ?_, ?_, ?_, ?_, ?_, ?_, ?_, ?_, ?_, ?_, ?_, trivial⟩ ?_
                    · intro ac wd hJ hfr hdep
                      have s13 : ac.tmps.getD 13 undef = .pointer (some ⟨H0, 0, none⟩) := (hfr 13 (by decide)).trans rfl
                      have s13' := slot' s13
                      clear hfr hdep
                      refine if_wanted rfl (fun Q => op_any (fun K hK => ?_))
                      go_simp
                      exact hK _ _ rfl hJ (Below.refl _ _)
                    · intro ac wd hJ hfr hdep
                      have s104 : ac.tmps.getD 104 undef = .pointer (some ⟨H0, 2, none⟩) := hdep 0 _ 104 (by decide) rfl rfl
                      have s104' := slot' s104
                      clear hfr hdep
                      refine if_wanted rfl (fun Q => op_any (fun K hK => ?_))
                      have hq := (HM.out.below hJ).h.c 2 (.int .i64 rz) rfl
                      go_simp
                      exact hK _ _ rfl hJ (Below.refl _ _)
                    · intro ac wd hJ hfr hdep
                      have s105 : ac.tmps.getD 105 undef = .int .i64 rz := hdep 1 _ 105 (by decide) rfl rfl
                      have s105' := slot' s105
                      clear hfr hdep
                      refine if_wanted rfl (fun Q => op_any (fun K hK => ?_))
                      go_simp
                      exact hK _ _ rfl hJ (Below.refl _ _)
                    · intro ac wd hJ hfr hdep
                      have s106 : ac.tmps.getD 106 undef = .bool false := hdep 2 _ 106 (by decide) rfl rfl
                      have s106' := slot' s106
                      clear hfr hdep
                      refine if_wanted rfl (fun Q => op_any (fun K hK => ?_))
                      go_simp
                      exact hK _ _ rfl hJ (Below.refl _ _)
                    · intro ac wd hJ hfr hdep
                      have sg : ac.tmps.getD 107 undef = .bool false := hdep 3 _ 107 (by decide) rfl rfl
                      exact if_unwanted (wanted_no rfl rfl rfl sg (by decide)) rfl
                    · intro ac wd hJ hfr hdep
                      have sg : ac.tmps.getD 107 undef = .bool false := hdep 3 _ 107 (by decide) rfl rfl
                      exact if_unwanted (wanted_no rfl rfl rfl sg (by decide)) rfl
                    · intro ac wd hJ hfr hdep
                      have sg : ac.tmps.getD 107 undef = .bool false := hdep 3 _ 107 (by decide) rfl rfl
                      exact if_unwanted (wanted_no rfl rfl rfl sg (by decide)) rfl
                    · intro ac wd hJ hfr hdep
                      have sg : ac.tmps.getD 107 undef = .bool false := hdep 3 _ 107 (by decide) rfl rfl
                      exact if_unwanted (wanted_no rfl rfl rfl sg (by decide)) rfl
                    · intro ac wd hJ hfr hdep
                      have sg : ac.tmps.getD 107 undef = .bool false := hdep 3 _ 107 (by decide) rfl rfl
                      exact if_unwanted (wanted_no rfl rfl rfl sg (by decide)) rfl
                    · intro ac wd hJ hfr hdep
                      have sg : ac.tmps.getD 107 undef = .bool false := hdep 3 _ 107 (by decide) rfl rfl
                      exact if_unwanted (wanted_no rfl rfl rfl sg (by decide)) rfl
                    · intro ac wd hJ hfr hdep
                      have sg : ac.tmps.getD 113 undef = undef := hdep 9 _ 113 (by decide) rfl rfl
                      exact if_unwanted (wanted_un rfl rfl rfl sg) rfl
                    · intro ac wd hJ hfr hdep
                      have sg : ac.tmps.getD 113 undef = undef := hdep 9 _ 113 (by decide) rfl rfl
                      exact if_unwanted (wanted_un rfl rfl rfl sg) rfl
                    · intro ac wd hJ hfr hdep
                      have sg : ac.tmps.getD 113 undef = undef := hdep 9 _ 113 (by decide) rfl rfl
                      exact if_unwanted (wanted_un rfl rfl rfl sg) rfl
                    · intro ac wd hJ hfr hdep
                      have sg : ac.tmps.getD 116 undef = undef := hdep 12 _ 116 (by decide) rfl rfl
                      exact if_unwanted (wanted_un rfl rfl rfl sg) rfl
                    · intro ac wd hJ hfr hdep
                      have sg : ac.tmps.getD 116 undef = undef := hdep 12 _ 116 (by decide) rfl rfl
                      exact if_unwanted (wanted_un rfl rfl rfl sg) rfl
                    · intro ac wd hJ hfr hdep
                      have sg : ac.tmps.getD 116 undef = undef := hdep 12 _ 116 (by decide) rfl rfl
                      exact if_unwanted (wanted_un rfl rfl rfl sg) rfl
                    · intro ac wd hJ hfr hdep
                      have sg : ac.tmps.getD 116 undef = undef := hdep 12 _ 116 (by decide) rfl rfl
                      exact if_unwanted (wanted_un rfl rfl rfl sg) rfl
                    · intro ac wd hJ hfr hdep
                      have sg : ac.tmps.getD 116 undef = undef := hdep 12 _ 116 (by decide) rfl rfl
                      exact if_unwanted (wanted_un rfl rfl rfl sg) rfl
                    · intro ac wd hJ hfr hdep
                      have sg : ac.tmps.getD 116 undef = undef := hdep 12 _ 116 (by decide) rfl rfl
                      exact if_unwanted (wanted_un rfl rfl rfl sg) rfl
                    · intro ac wd hJ hfr hdep
                      have sg : ac.tmps.getD 113 undef = undef := hdep 9 _ 113 (by decide) rfl rfl
                      exact if_unwanted (wanted_un rfl rfl rfl sg) rfl
                    · intro ac wd hJ hfr hdep
                      have sg : ac.tmps.getD 113 undef = undef := hdep 9 _ 113 (by decide) rfl rfl
                      exact if_unwanted (wanted_un rfl rfl rfl sg) rfl
                    · intro ac wd hJ hfr hdep
                      have sg : ac.tmps.getD 124 undef = undef := hdep 20 _ 124 (by decide) rfl rfl
                      exact if_unwanted (wanted_un rfl rfl rfl sg) rfl
                    · intro ac wd hJ hfr hdep
                      have sg : ac.tmps.getD 124 undef = undef := hdep 20 _ 124 (by decide) rfl rfl
                      exact if_unwanted (wanted_un rfl rfl rfl sg) rfl
                    · intro ac wd hJ hfr hdep
                      have sg : ac.tmps.getD 124 undef = undef := hdep 20 _ 124 (by decide) rfl rfl
                      exact if_unwanted (wanted_un rfl rfl rfl sg) rfl
                    · intro ac wd hJ hfr hdep
                      have sg : ac.tmps.getD 124 undef = undef := hdep 20 _ 124 (by decide) rfl rfl
                      exact if_unwanted (wanted_un rfl rfl rfl sg) rfl
                    · intro ac wd hJ hfr hdep
                      have sg : ac.tmps.getD 124 undef = undef := hdep 20 _ 124 (by decide) rfl rfl
                      exact if_unwanted (wanted_un rfl rfl rfl sg) rfl
                    · intro ac wd hJ hfr hdep
                      have sg : ac.tmps.getD 124 undef = undef := hdep 20 _ 124 (by decide) rfl rfl
                      exact if_unwanted (wanted_un rfl rfl rfl sg) rfl
                    · intro ac wd hJ hfr hdep
                      have sg : ac.tmps.getD 124 undef = undef := hdep 20 _ 124 (by decide) rfl rfl
                      exact if_unwanted (wanted_un rfl rfl rfl sg) rfl
                    · intro ac wd hJ hfr hdep
                      have sg : ac.tmps.getD 113 undef = undef := hdep 9 _ 113 (by decide) rfl rfl
                      exact if_unwanted (wanted_un rfl rfl rfl sg) rfl
                    · intro ac wd hJ hfr hdep
                      have sg : ac.tmps.getD 107 undef = .bool false := hdep 3 _ 107 (by decide) rfl rfl
                      exact if_unwanted (wanted_no rfl rfl rfl sg (by decide)) rfl
                    · intro ac wd hJ hfr hdep
                      have s107 : ac.tmps.getD 107 undef = .bool false := hdep 3 _ 107 (by decide) rfl rfl
                      have s133 : ac.tmps.getD 133 undef = undef := hdep 29 _ 133 (by decide) rfl rfl
                      have s107' := slot' s107
                      have s133' := slot' s133
                      clear hfr hdep
                      refine if_wanted rfl (fun Q => op_any (fun K hK => ?_))
                      go_simp
                      exact hK _ _ rfl hJ (Below.refl _ _)
                    intro f w3 hJ3 hR
                    have e0 : f 0 = .pointer (some ⟨H0, 2, none⟩) := hR 0 (by decide)
                    have e1 : f 1 = .int .i64 rz := hR 1 (by decide)
                    have e2 : f 2 = .bool false := hR 2 (by decide)
                    have e3 : f 3 = .bool false := hR 3 (by decide)
                    have e4 : f 4 = undef := hR 4 (by decide)
                    have e5 : f 5 = undef := hR 5 (by decide)
                    have e6 : f 6 = undef := hR 6 (by decide)
                    have e7 : f 7 = undef := hR 7 (by decide)
                    have e8 : f 8 = undef := hR 8 (by decide)
                    have e9 : f 9 = undef := hR 9 (by decide)
                    have e10 : f 10 = undef := hR 10 (by decide)
                    have e11 : f 11 = undef := hR 11 (by decide)
                    have e12 : f 12 = undef := hR 12 (by decide)
                    have e13 : f 13 = undef := hR 13 (by decide)
                    have e14 : f 14 = undef := hR 14 (by decide)
                    have e15 : f 15 = undef := hR 15 (by decide)
                    have e16 : f 16 = undef := hR 16 (by decide)
                    have e17 : f 17 = undef := hR 17 (by decide)
                    have e18 : f 18 = undef := hR 18 (by decide)
                    have e19 : f 19 = undef := hR 19 (by decide)
                    have e20 : f 20 = undef := hR 20 (by decide)
                    have e21 : f 21 = undef := hR 21 (by decide)
                    have e22 : f 22 = undef := hR 22 (by decide)
                    have e23 : f 23 = undef := hR 23 (by decide)
                    have e24 : f 24 = undef := hR 24 (by decide)
                    have e25 : f 25 = undef := hR 25 (by decide)
                    have e26 : f 26 = undef := hR 26 (by decide)
                    have e27 : f 27 = undef := hR 27 (by decide)
                    have e28 : f 28 = undef := hR 28 (by decide)
                    have e29 : f 29 = undef := hR 29 (by decide)
                    have e30 : f 30 = (Value.bool false) := hR 30 (by decide)
                    clear hR
                    simp only [finA, Act.put, List.setIfInBounds_toArray, List.set_cons_succ, List.set_cons_zero, Nat.reduceAdd, e0, e1, e2, e3, e4, e5, e6, e7, e8, e9, e10, e11, e12, e13, e14, e15, e16, e17, e18, e19, e20, e21, e22, e23, e24, e25, e26, e27, e28, e29, e30]
                    clear e0 e1 e2 e3 e4 e5 e6 e7 e8 e9 e10 e11 e12 e13 e14 e15 e16 e17 e18 e19 e20 e21 e22 e23 e24 e25 e26 e27 e28 e29 e30
                    have HM3 := Lib.hid (HM.out.below hJ3)
                    clear HM hJ3 HRt
                    go_wp2_with fail
                    go_roundw
                    case rel => exact ⟨k + 1, by omega, .inl hr0, by first | (rw [← Hnx.out]; done) | (rw [← Hnx.out]; rfl), by rw [hz, Hrr0.out]; exact HM3⟩
                    case measure => have := Hc.out; simp [intOf] <;> omega
                  have z0' : (rz == 0) = true := by rw [beq_iff_eq]; exact z0
                  by_cases x0 : xr = rate
                  · have x0' : (xr == rate) = true := by rw [beq_iff_eq]; exact x0
                    have hz : rcR rate (k + 1) = c := by rw [Hcn.out, if_pos ⟨z0, Hxr.out.2 (.inl x0)⟩]
                    clear Hcn Hxr z0 x0
                    refine wp_region_specs [
                      Spec.val (.pointer (some ⟨H0, 2, none⟩)),
                      Spec.val (.int .i64 rz),
                      Spec.val (.bool true),
                      Spec.val (.bool true),
                      Spec.val (.int .i64 c),
                      Spec.val (.int .i64 xr),
                      Spec.val (.pointer (some ⟨P0, 0, none⟩)),
                      Spec.val (.int .i64 rate),
                      Spec.val (.bool true),
                      Spec.val (.bool true),
                      Spec.val (undef),
                      Spec.val (undef),
                      Spec.val (undef),
                      Spec.val (undef),
                      Spec.val (undef),
                      Spec.val (undef),
                      Spec.val (undef),
                      Spec.val (undef),
                      Spec.val (undef),
                      Spec.val (undef),
                      Spec.val (undef),
                      Spec.val (undef),
                      Spec.val (undef),
                      Spec.val (undef),
                      Spec.val (undef),
                      Spec.val (undef),
                      Spec.val (undef),
                      Spec.val (undef),
                      Spec.val (undef),
                      Spec.val ((Value.bool true)),
                      Spec.val ((Value.bool true))] w1 (by kernel_rfl) (by repeat (first | exact Below.refl _ _ | assumption | refine below_drewN ?_ _ | refine Below.drew ?_ | refine Below.alloc ?_ (Nat.le_refl _) _ | refine bal ?_ _ | refine bnext ?_ (by assumption))) (n := 155) rfl (by decide +kernel) ⟨?_, ?_, ?_, ?_, ?_, ?_, ?_, ?_, ?_, ?_, ?_, ?_, ?_, ?_, ?_, ?_, ?_, ?_, ?_, ?_, ?_, ?_, ?_, ?_, ?_, ?_, ?_, ?_, ?_, ?_, ?_, trivial⟩ ?_
                    · intro ac wd hJ hfr hdep
                      have s13 : ac.tmps.getD 13 undef = .pointer (some ⟨H0, 0, none⟩) := (hfr 13 (by decide)).trans rfl
                      have s13' := slot' s13
                      clear hfr hdep
                      refine if_wanted rfl (fun Q => op_any (fun K hK => ?_))
                      go_simp
                      exact hK _ _ rfl hJ (Below.refl _ _)
                    · intro ac wd hJ hfr hdep
                      have s104 : ac.tmps.getD 104 undef = .pointer (some ⟨H0, 2, none⟩) := hdep 0 _ 104 (by decide) rfl rfl
                      have s104' := slot' s104
                      clear hfr hdep
                      refine if_wanted rfl (fun Q => op_any (fun K hK => ?_))
                      have hq := (HM.out.below hJ).h.c 2 (.int .i64 rz) rfl
                      go_simp
                      exact hK _ _ rfl hJ (Below.refl _ _)
                    · intro ac wd hJ hfr hdep
                      have s105 : ac.tmps.getD 105 undef = .int .i64 rz := hdep 1 _ 105 (by decide) rfl rfl
                      have s105' := slot' s105
                      clear hfr hdep
                      refine if_wanted rfl (fun Q => op_any (fun K hK => ?_))
                      go_simp
                      exact hK _ _ rfl hJ (Below.refl _ _)
                    · intro ac wd hJ hfr hdep
                      have s106 : ac.tmps.getD 106 undef = .bool true := hdep 2 _ 106 (by decide) rfl rfl
                      have s106' := slot' s106
                      clear hfr hdep
                      refine if_wanted rfl (fun Q => op_any (fun K hK => ?_))
                      go_simp
                      exact hK _ _ rfl hJ (Below.refl _ _)
                    · intro ac wd hJ hfr hdep
                      have sg : ac.tmps.getD 107 undef = .bool true := hdep 3 _ 107 (by decide) rfl rfl
                      have s15 : ac.tmps.getD 15 undef = .int .i64 c := (hfr 15 (by decide)).trans rfl
                      have s15' := slot' s15
                      clear hfr hdep
                      refine if_wanted (wanted_yes rfl rfl rfl sg) (fun Q => op_any (fun K hK => ?_))
                      go_simp
                      exact hK _ _ rfl hJ (Below.refl _ _)
                    · intro ac wd hJ hfr hdep
                      have sg : ac.tmps.getD 107 undef = .bool true := hdep 3 _ 107 (by decide) rfl rfl
                      have s108 : ac.tmps.getD 108 undef = .int .i64 c := hdep 4 _ 108 (by decide) rfl rfl
                      have s108' := slot' s108
                      clear hfr hdep
                      refine if_wanted (wanted_yes rfl rfl rfl sg) (fun Q => op_any (fun K hK => ?_))
                      go_simp
                      refine (HRt.out _).mono ?_
                      rintro e wz ⟨rfl, hbz⟩
                      exact hK _ _ rfl (bnext hJ hbz) hbz
                    · intro ac wd hJ hfr hdep
                      have sg : ac.tmps.getD 107 undef = .bool true := hdep 3 _ 107 (by decide) rfl rfl
                      have s9 : ac.tmps.getD 9 undef = .pointer (some ⟨P0, 0, none⟩) := (hfr 9 (by decide)).trans rfl
                      have s9' := slot' s9
                      clear hfr hdep
                      refine if_wanted (wanted_yes rfl rfl rfl sg) (fun Q => op_any (fun K hK => ?_))
                      go_simp
                      exact hK _ _ rfl hJ (Below.refl _ _)
                    · intro ac wd hJ hfr hdep
                      have sg : ac.tmps.getD 107 undef = .bool true := hdep 3 _ 107 (by decide) rfl rfl
                      have s110 : ac.tmps.getD 110 undef = .pointer (some ⟨P0, 0, none⟩) := hdep 6 _ 110 (by decide) rfl rfl
                      have s110' := slot' s110
                      clear hfr hdep
                      refine if_wanted (wanted_yes rfl rfl rfl sg) (fun Q => op_any (fun K hK => ?_))
                      have hq := (HM.out.below hJ).p0
                      go_simp
                      exact hK _ _ rfl hJ (Below.refl _ _)
                    · intro ac wd hJ hfr hdep
                      have sg : ac.tmps.getD 107 undef = .bool true := hdep 3 _ 107 (by decide) rfl rfl
                      have s109 : ac.tmps.getD 109 undef = .int .i64 xr := hdep 5 _ 109 (by decide) rfl rfl
                      have s111 : ac.tmps.getD 111 undef = .int .i64 rate := hdep 7 _ 111 (by decide) rfl rfl
                      have s109' := slot' s109
                      have s111' := slot' s111
                      clear hfr hdep
                      refine if_wanted (wanted_yes rfl rfl rfl sg) (fun Q => op_any (fun K hK => ?_))
                      go_simp
                      exact hK _ _ rfl hJ (Below.refl _ _)
                    · intro ac wd hJ hfr hdep
                      have sg : ac.tmps.getD 107 undef = .bool true := hdep 3 _ 107 (by decide) rfl rfl
                      have s112 : ac.tmps.getD 112 undef = .bool true := hdep 8 _ 112 (by decide) rfl rfl
                      have s112' := slot' s112
                      clear hfr hdep
                      refine if_wanted (wanted_yes rfl rfl rfl sg) (fun Q => op_any (fun K hK => ?_))
                      go_simp
                      exact hK _ _ rfl hJ (Below.refl _ _)
                    · intro ac wd hJ hfr hdep
                      have sg : ac.tmps.getD 113 undef = .bool true := hdep 9 _ 113 (by decide) rfl rfl
                      exact if_unwanted (wanted_no rfl rfl rfl sg (by decide)) rfl
                    · intro ac wd hJ hfr hdep
                      have sg : ac.tmps.getD 113 undef = .bool true := hdep 9 _ 113 (by decide) rfl rfl
                      exact if_unwanted (wanted_no rfl rfl rfl sg (by decide)) rfl
                    · intro ac wd hJ hfr hdep
                      have sg : ac.tmps.getD 113 undef = .bool true := hdep 9 _ 113 (by decide) rfl rfl
                      exact if_unwanted (wanted_no rfl rfl rfl sg (by decide)) rfl
                    · intro ac wd hJ hfr hdep
                      have sg : ac.tmps.getD 116 undef = undef := hdep 12 _ 116 (by decide) rfl rfl
                      exact if_unwanted (wanted_un rfl rfl rfl sg) rfl
                    · intro ac wd hJ hfr hdep
                      have sg : ac.tmps.getD 116 undef = undef := hdep 12 _ 116 (by decide) rfl rfl
                      exact if_unwanted (wanted_un rfl rfl rfl sg) rfl
                    · intro ac wd hJ hfr hdep
                      have sg : ac.tmps.getD 116 undef = undef := hdep 12 _ 116 (by decide) rfl rfl
                      exact if_unwanted (wanted_un rfl rfl rfl sg) rfl
                    · intro ac wd hJ hfr hdep
                      have sg : ac.tmps.getD 116 undef = undef := hdep 12 _ 116 (by decide) rfl rfl
                      exact if_unwanted (wanted_un rfl rfl rfl sg) rfl
                    · intro ac wd hJ hfr hdep
                      have sg : ac.tmps.getD 116 undef = undef := hdep 12 _ 116 (by decide) rfl rfl
                      exact if_unwanted (wanted_un rfl rfl rfl sg) rfl
                    · intro ac wd hJ hfr hdep
                      have sg : ac.tmps.getD 116 undef = undef := hdep 12 _ 116 (by decide) rfl rfl
                      exact if_unwanted (wanted_un rfl rfl rfl sg) rfl
                    · intro ac wd hJ hfr hdep
                      have sg : ac.tmps.getD 113 undef = .bool true := hdep 9 _ 113 (by decide) rfl rfl
                      exact if_unwanted (wanted_no rfl rfl rfl sg (by decide)) rfl
                    · intro ac wd hJ hfr hdep
                      have sg : ac.tmps.getD 113 undef = .bool true := hdep 9 _ 113 (by decide) rfl rfl
                      exact if_unwanted (wanted_no rfl rfl rfl sg (by decide)) rfl
                    · intro ac wd hJ hfr hdep
                      have sg : ac.tmps.getD 124 undef = undef := hdep 20 _ 124 (by decide) rfl rfl
                      exact if_unwanted (wanted_un rfl rfl rfl sg) rfl
                    · intro ac wd hJ hfr hdep
                      have sg : ac.tmps.getD 124 undef = undef := hdep 20 _ 124 (by decide) rfl rfl
                      exact if_unwanted (wanted_un rfl rfl rfl sg) rfl
                    · intro ac wd hJ hfr hdep
                      have sg : ac.tmps.getD 124 undef = undef := hdep 20 _ 124 (by decide) rfl rfl
                      exact if_unwanted (wanted_un rfl rfl rfl sg) rfl
                    · intro ac wd hJ hfr hdep
                      have sg : ac.tmps.getD 124 undef = undef := hdep 20 _ 124 (by decide) rfl rfl
                      exact if_unwanted (wanted_un rfl rfl rfl sg) rfl
                    · intro ac wd hJ hfr hdep
                      have sg : ac.tmps.getD 124 undef = undef := hdep 20 _ 124 (by decide) rfl rfl
                      exact if_unwanted (wanted_un rfl rfl rfl sg) rfl
                    · intro ac wd hJ hfr hdep
                      have sg : ac.tmps.getD 124 undef = undef := hdep 20 _ 124 (by decide) rfl rfl
                      exact if_unwanted (wanted_un rfl rfl rfl sg) rfl
                    · intro ac wd hJ hfr hdep
                      have sg : ac.tmps.getD 124 undef = undef := hdep 20 _ 124 (by decide) rfl rfl
                      exact if_unwanted (wanted_un rfl rfl rfl sg) rfl
                    · intro ac wd hJ hfr hdep
                      have sg : ac.tmps.getD 113 undef = .bool true := hdep 9 _ 113 (by decide) rfl rfl
                      exact if_unwanted (wanted_no rfl rfl rfl sg (by decide)) rfl
                    · intro ac wd hJ hfr hdep
                      have sg : ac.tmps.getD 107 undef = .bool true := hdep 3 _ 107 (by decide) rfl rfl
                      have s113 : ac.tmps.getD 113 undef = .bool true := hdep 9 _ 113 (by decide) rfl rfl
                      have s132 : ac.tmps.getD 132 undef = undef := hdep 28 _ 132 (by decide) rfl rfl
                      have s113' := slot' s113
                      have s132' := slot' s132
                      clear hfr hdep
                      refine if_wanted (wanted_yes rfl rfl rfl sg) (fun Q => op_any (fun K hK => ?_))
                      go_simp
                      exact hK _ _ rfl hJ (Below.refl _ _)
                    · intro ac wd hJ hfr hdep
                      have s107 : ac.tmps.getD 107 undef = .bool true := hdep 3 _ 107 (by decide) rfl rfl
                      have s133 : ac.tmps.getD 133 undef = (Value.bool true) := hdep 29 _ 133 (by decide) rfl rfl
                      have s107' := slot' s107
                      have s133' := slot' s133
                      clear hfr hdep
                      refine if_wanted rfl (fun Q => op_any (fun K hK => ?_))
                      go_simp
                      exact hK _ _ rfl hJ (Below.refl _ _)
                    intro f w3 hJ3 hR
                    have e0 : f 0 = .pointer (some ⟨H0, 2, none⟩) := hR 0 (by decide)
                    have e1 : f 1 = .int .i64 rz := hR 1 (by decide)
                    have e2 : f 2 = .bool true := hR 2 (by decide)
                    have e3 : f 3 = .bool true := hR 3 (by decide)
                    have e4 : f 4 = .int .i64 c := hR 4 (by decide)
                    have e5 : f 5 = .int .i64 xr := hR 5 (by decide)
                    have e6 : f 6 = .pointer (some ⟨P0, 0, none⟩) := hR 6 (by decide)
                    have e7 : f 7 = .int .i64 rate := hR 7 (by decide)
                    have e8 : f 8 = .bool true := hR 8 (by decide)
                    have e9 : f 9 = .bool true := hR 9 (by decide)
                    have e10 : f 10 = undef := hR 10 (by decide)
                    have e11 : f 11 = undef := hR 11 (by decide)
                    have e12 : f 12 = undef := hR 12 (by decide)
                    have e13 : f 13 = undef := hR 13 (by decide)
                    have e14 : f 14 = undef := hR 14 (by decide)
                    have e15 : f 15 = undef := hR 15 (by decide)
                    have e16 : f 16 = undef := hR 16 (by decide)
                    have e17 : f 17 = undef := hR 17 (by decide)
                    have e18 : f 18 = undef := hR 18 (by decide)
                    have e19 : f 19 = undef := hR 19 (by decide)
                    have e20 : f 20 = undef := hR 20 (by decide)
                    have e21 : f 21 = undef := hR 21 (by decide)
                    have e22 : f 22 = undef := hR 22 (by decide)
                    have e23 : f 23 = undef := hR 23 (by decide)
                    have e24 : f 24 = undef := hR 24 (by decide)
                    have e25 : f 25 = undef := hR 25 (by decide)
                    have e26 : f 26 = undef := hR 26 (by decide)
                    have e27 : f 27 = undef := hR 27 (by decide)
                    have e28 : f 28 = undef := hR 28 (by decide)
                    have e29 : f 29 = (Value.bool true) := hR 29 (by decide)
                    have e30 : f 30 = (Value.bool true) := hR 30 (by decide)
                    clear hR
                    simp only [finA, Act.put, List.setIfInBounds_toArray, List.set_cons_succ, List.set_cons_zero, Nat.reduceAdd, e0, e1, e2, e3, e4, e5, e6, e7, e8, e9, e10, e11, e12, e13, e14, e15, e16, e17, e18, e19, e20, e21, e22, e23, e24, e25, e26, e27, e28, e29, e30]
                    clear e0 e1 e2 e3 e4 e5 e6 e7 e8 e9 e10 e11 e12 e13 e14 e15 e16 e17 e18 e19 e20 e21 e22 e23 e24 e25 e26 e27 e28 e29 e30
                    have HM3 := Lib.hid (HM.out.below hJ3)
                    have f2 := HM3.out.h.c 2 (.int .i64 rz) rfl
                    have z2 := HM3.out.fz 2
                    have HM4 := Lib.hid (HM3.out.set 2 (.int .i64 c) ⟨V, BF, c, m, 0, n, b, rr0, 0⟩ rfl)
                    have f7 := HM4.out.h.c 7 (.int .i64 rr0) rfl
                    have z7 := HM4.out.fz 7
                    have p0 := HM4.out.p0
                    have HM5 := Lib.hid (HM4.out.set 7 (.int .i64 rate) ⟨V, BF, c, m, 0, n, b, rate, 0⟩ rfl)
                    clear HM hJ3 HRt Hrr0
                    go_wp2_with fail
                    go_roundw
                    case rel => exact ⟨k + 1, by omega, .inl hr0, by first | (rw [← Hnx.out]; done) | (rw [← Hnx.out]; rfl), by rw [hz, if_neg (by omega)]; exact HM5⟩
                    case measure => have := Hc.out; simp [intOf] <;> omega
                  have x0' : (xr == rate) = false := by rw [beq_eq_false_iff_ne]; exact x0
                  by_cases c12 : c < 12
                  · have c12' : decide (c ≥ 12) = false := decide_eq_false (by omega)
                    have hno : ¬ hitR rate c := fun h => by rcases Hxr.out.1 h with h | h; exact x0 h; omega
                    have hz : rcR rate (k + 1) = rz := by rw [Hcn.out, if_neg (fun h => hno h.2)]
                    clear Hcn Hxr z0 x0 hno
                    refine wp_region_specs [
                      Spec.val (.pointer (some ⟨H0, 2, none⟩)),
                      Spec.val (.int .i64 rz),
                      Spec.val (.bool true),
                      Spec.val (.bool true),
                      Spec.val (.int .i64 c),
                      Spec.val (.int .i64 xr),
                      Spec.val (.pointer (some ⟨P0, 0, none⟩)),
                      Spec.val (.int .i64 rate),
                      Spec.val (.bool false),
                      Spec.val (.bool false),
                      Spec.val (.int .i64 c),
                      Spec.val (.bool false),
                      Spec.val (.bool false),
                      Spec.val (undef),
                      Spec.val (undef),
                      Spec.val (undef),
                      Spec.val (undef),
                      Spec.val (undef),
                      Spec.val (undef),
                      Spec.val ((Value.bool false)),
                      Spec.val ((Value.bool false)),
                      Spec.val (undef),
                      Spec.val (undef),
                      Spec.val (undef),
                      Spec.val (undef),
                      Spec.val (undef),
                      Spec.val (undef),
                      Spec.val (undef),
                      Spec.val ((Value.bool false)),
                      Spec.val ((Value.bool false)),
                      Spec.val ((Value.bool false))] w1 (by kernel_rfl) (by repeat (first | exact Below.refl _ _ | assumption | refine below_drewN ?_ _ | refine Below.drew ?_ | refine Below.alloc ?_ (Nat.le_refl _) _ | refine bal ?_ _ | refine bnext ?_ (by assumption))) (n := 155) rfl (by decide +kernel) ⟨?_, ?_, ?_, ?_, ?_, ?_, ?_, ?_, ?_, ?_, ?_, ?_, ?_, ?_, ?_, ?_, ?_, ?_, ?_, ?_, ?_, ?_, ?_, ?_, ?_, ?_, ?_, ?_, ?_, ?_, ?_, trivial⟩ ?_
                    · intro ac wd hJ hfr hdep
                      have s13 : ac.tmps.getD 13 undef = .pointer (some ⟨H0, 0, none⟩) := (hfr 13 (by decide)).trans rfl
                      have s13' := slot' s13
                      clear hfr hdep
                      refine if_wanted rfl (fun Q => op_any (fun K hK => ?_))
                      go_simp
                      exact hK _ _ rfl hJ (Below.refl _ _)
                    · intro ac wd hJ hfr hdep
                      have s104 : ac.tmps.getD 104 undef = .pointer (some ⟨H0, 2, none⟩) := hdep 0 _ 104 (by decide) rfl rfl
                      have s104' := slot' s104
                      clear hfr hdep
                      refine if_wanted rfl (fun Q => op_any (fun K hK => ?_))
                      have hq := (HM.out.below hJ).h.c 2 (.int .i64 rz) rfl
                      go_simp
                      exact hK _ _ rfl hJ (Below.refl _ _)
                    · intro ac wd hJ hfr hdep
                      have s105 : ac.tmps.getD 105 undef = .int .i64 rz := hdep 1 _ 105 (by decide) rfl rfl
                      have s105' := slot' s105
                      clear hfr hdep
                      refine if_wanted rfl (fun Q => op_any (fun K hK => ?_))
                      go_simp
                      exact hK _ _ rfl hJ (Below.refl _ _)
                    · intro ac wd hJ hfr hdep
                      have s106 : ac.tmps.getD 106 undef = .bool true := hdep 2 _ 106 (by decide) rfl rfl
                      have s106' := slot' s106
                      clear hfr hdep
                      refine if_wanted rfl (fun Q => op_any (fun K hK => ?_))
                      go_simp
                      exact hK _ _ rfl hJ (Below.refl _ _)
                    · intro ac wd hJ hfr hdep
                      have sg : ac.tmps.getD 107 undef = .bool true := hdep 3 _ 107 (by decide) rfl rfl
                      have s15 : ac.tmps.getD 15 undef = .int .i64 c := (hfr 15 (by decide)).trans rfl
                      have s15' := slot' s15
                      clear hfr hdep
                      refine if_wanted (wanted_yes rfl rfl rfl sg) (fun Q => op_any (fun K hK => ?_))
                      go_simp
                      exact hK _ _ rfl hJ (Below.refl _ _)
                    · intro ac wd hJ hfr hdep
                      have sg : ac.tmps.getD 107 undef = .bool true := hdep 3 _ 107 (by decide) rfl rfl
                      have s108 : ac.tmps.getD 108 undef = .int .i64 c := hdep 4 _ 108 (by decide) rfl rfl
                      have s108' := slot' s108
                      clear hfr hdep
                      refine if_wanted (wanted_yes rfl rfl rfl sg) (fun Q => op_any (fun K hK => ?_))
                      go_simp
                      refine (HRt.out _).mono ?_
                      rintro e wz ⟨rfl, hbz⟩
                      exact hK _ _ rfl (bnext hJ hbz) hbz
                    · intro ac wd hJ hfr hdep
                      have sg : ac.tmps.getD 107 undef = .bool true := hdep 3 _ 107 (by decide) rfl rfl
                      have s9 : ac.tmps.getD 9 undef = .pointer (some ⟨P0, 0, none⟩) := (hfr 9 (by decide)).trans rfl
                      have s9' := slot' s9
                      clear hfr hdep
                      refine if_wanted (wanted_yes rfl rfl rfl sg) (fun Q => op_any (fun K hK => ?_))
                      go_simp
                      exact hK _ _ rfl hJ (Below.refl _ _)
                    · intro ac wd hJ hfr hdep
                      have sg : ac.tmps.getD 107 undef = .bool true := hdep 3 _ 107 (by decide) rfl rfl
                      have s110 : ac.tmps.getD 110 undef = .pointer (some ⟨P0, 0, none⟩) := hdep 6 _ 110 (by decide) rfl rfl
                      have s110' := slot' s110
                      clear hfr hdep
                      refine if_wanted (wanted_yes rfl rfl rfl sg) (fun Q => op_any (fun K hK => ?_))
                      have hq := (HM.out.below hJ).p0
                      go_simp
                      exact hK _ _ rfl hJ (Below.refl _ _)
                    · intro ac wd hJ hfr hdep
                      have sg : ac.tmps.getD 107 undef = .bool true := hdep 3 _ 107 (by decide) rfl rfl
                      have s109 : ac.tmps.getD 109 undef = .int .i64 xr := hdep 5 _ 109 (by decide) rfl rfl
                      have s111 : ac.tmps.getD 111 undef = .int .i64 rate := hdep 7 _ 111 (by decide) rfl rfl
                      have s109' := slot' s109
                      have s111' := slot' s111
                      clear hfr hdep
                      refine if_wanted (wanted_yes rfl rfl rfl sg) (fun Q => op_any (fun K hK => ?_))
                      go_simp
                      exact hK _ _ rfl hJ (Below.refl _ _)
                    · intro ac wd hJ hfr hdep
                      have sg : ac.tmps.getD 107 undef = .bool true := hdep 3 _ 107 (by decide) rfl rfl
                      have s112 : ac.tmps.getD 112 undef = .bool false := hdep 8 _ 112 (by decide) rfl rfl
                      have s112' := slot' s112
                      clear hfr hdep
                      refine if_wanted (wanted_yes rfl rfl rfl sg) (fun Q => op_any (fun K hK => ?_))
                      go_simp
                      exact hK _ _ rfl hJ (Below.refl _ _)
                    · intro ac wd hJ hfr hdep
                      have sg : ac.tmps.getD 113 undef = .bool false := hdep 9 _ 113 (by decide) rfl rfl
                      have s15 : ac.tmps.getD 15 undef = .int .i64 c := (hfr 15 (by decide)).trans rfl
                      have s15' := slot' s15
                      clear hfr hdep
                      refine if_wanted (wanted_yes rfl rfl rfl sg) (fun Q => op_any (fun K hK => ?_))
                      go_simp
                      exact hK _ _ rfl hJ (Below.refl _ _)
                    · intro ac wd hJ hfr hdep
                      have sg : ac.tmps.getD 113 undef = .bool false := hdep 9 _ 113 (by decide) rfl rfl
                      have s114 : ac.tmps.getD 114 undef = .int .i64 c := hdep 10 _ 114 (by decide) rfl rfl
                      have s114' := slot' s114
                      clear hfr hdep
                      refine if_wanted (wanted_yes rfl rfl rfl sg) (fun Q => op_any (fun K hK => ?_))
                      go_simp
                      exact hK _ _ rfl hJ (Below.refl _ _)
                    · intro ac wd hJ hfr hdep
                      have sg : ac.tmps.getD 113 undef = .bool false := hdep 9 _ 113 (by decide) rfl rfl
                      have s115 : ac.tmps.getD 115 undef = .bool false := hdep 11 _ 115 (by decide) rfl rfl
                      have s115' := slot' s115
                      clear hfr hdep
                      refine if_wanted (wanted_yes rfl rfl rfl sg) (fun Q => op_any (fun K hK => ?_))
                      go_simp
                      exact hK _ _ rfl hJ (Below.refl _ _)
                    · intro ac wd hJ hfr hdep
                      have sg : ac.tmps.getD 116 undef = .bool false := hdep 12 _ 116 (by decide) rfl rfl
                      exact if_unwanted (wanted_no rfl rfl rfl sg (by decide)) rfl
                    · intro ac wd hJ hfr hdep
                      have sg : ac.tmps.getD 116 undef = .bool false := hdep 12 _ 116 (by decide) rfl rfl
                      exact if_unwanted (wanted_no rfl rfl rfl sg (by decide)) rfl
                    · intro ac wd hJ hfr hdep
                      have sg : ac.tmps.getD 116 undef = .bool false := hdep 12 _ 116 (by decide) rfl rfl
                      exact if_unwanted (wanted_no rfl rfl rfl sg (by decide)) rfl
                    · intro ac wd hJ hfr hdep
                      have sg : ac.tmps.getD 116 undef = .bool false := hdep 12 _ 116 (by decide) rfl rfl
                      exact if_unwanted (wanted_no rfl rfl rfl sg (by decide)) rfl
                    · intro ac wd hJ hfr hdep
                      have sg : ac.tmps.getD 116 undef = .bool false := hdep 12 _ 116 (by decide) rfl rfl
                      exact if_unwanted (wanted_no rfl rfl rfl sg (by decide)) rfl
                    · intro ac wd hJ hfr hdep
                      have sg : ac.tmps.getD 116 undef = .bool false := hdep 12 _ 116 (by decide) rfl rfl
                      exact if_unwanted (wanted_no rfl rfl rfl sg (by decide)) rfl
                    · intro ac wd hJ hfr hdep
                      have sg : ac.tmps.getD 113 undef = .bool false := hdep 9 _ 113 (by decide) rfl rfl
                      have s116 : ac.tmps.getD 116 undef = .bool false := hdep 12 _ 116 (by decide) rfl rfl
                      have s122 : ac.tmps.getD 122 undef = undef := hdep 18 _ 122 (by decide) rfl rfl
                      have s116' := slot' s116
                      have s122' := slot' s122
                      clear hfr hdep
                      refine if_wanted (wanted_yes rfl rfl rfl sg) (fun Q => op_any (fun K hK => ?_))
                      go_simp
                      exact hK _ _ rfl hJ (Below.refl _ _)
                    · intro ac wd hJ hfr hdep
                      have sg : ac.tmps.getD 113 undef = .bool false := hdep 9 _ 113 (by decide) rfl rfl
                      have s123 : ac.tmps.getD 123 undef = (Value.bool false) := hdep 19 _ 123 (by decide) rfl rfl
                      have s123' := slot' s123
                      clear hfr hdep
                      refine if_wanted (wanted_yes rfl rfl rfl sg) (fun Q => op_any (fun K hK => ?_))
                      go_simp
                      exact hK _ _ rfl hJ (Below.refl _ _)
                    · intro ac wd hJ hfr hdep
                      have sg : ac.tmps.getD 124 undef = .bool false := hdep 20 _ 124 (by decide) rfl rfl
                      exact if_unwanted (wanted_no rfl rfl rfl sg (by decide)) rfl
                    · intro ac wd hJ hfr hdep
                      have sg : ac.tmps.getD 124 undef = .bool false := hdep 20 _ 124 (by decide) rfl rfl
                      exact if_unwanted (wanted_no rfl rfl rfl sg (by decide)) rfl
                    · intro ac wd hJ hfr hdep
                      have sg : ac.tmps.getD 124 undef = .bool false := hdep 20 _ 124 (by decide) rfl rfl
                      exact if_unwanted (wanted_no rfl rfl rfl sg (by decide)) rfl
                    · intro ac wd hJ hfr hdep
                      have sg : ac.tmps.getD 124 undef = .bool false := hdep 20 _ 124 (by decide) rfl rfl
                      exact if_unwanted (wanted_no rfl rfl rfl sg (by decide)) rfl
                    · intro ac wd hJ hfr hdep
                      have sg : ac.tmps.getD 124 undef = .bool false := hdep 20 _ 124 (by decide) rfl rfl
                      exact if_unwanted (wanted_no rfl rfl rfl sg (by decide)) rfl
                    · intro ac wd hJ hfr hdep
                      have sg : ac.tmps.getD 124 undef = .bool false := hdep 20 _ 124 (by decide) rfl rfl
                      exact if_unwanted (wanted_no rfl rfl rfl sg (by decide)) rfl
                    · intro ac wd hJ hfr hdep
                      have sg : ac.tmps.getD 124 undef = .bool false := hdep 20 _ 124 (by decide) rfl rfl
                      exact if_unwanted (wanted_no rfl rfl rfl sg (by decide)) rfl
                    · intro ac wd hJ hfr hdep
                      have sg : ac.tmps.getD 113 undef = .bool false := hdep 9 _ 113 (by decide) rfl rfl
                      have s124 : ac.tmps.getD 124 undef = (Value.bool false) := hdep 20 _ 124 (by decide) rfl rfl
                      have s131 : ac.tmps.getD 131 undef = undef := hdep 27 _ 131 (by decide) rfl rfl
                      have s124' := slot' s124
                      have s131' := slot' s131
                      clear hfr hdep
                      refine if_wanted (wanted_yes rfl rfl rfl sg) (fun Q => op_any (fun K hK => ?_))
                      go_simp
                      exact hK _ _ rfl hJ (Below.refl _ _)
                    · intro ac wd hJ hfr hdep
                      have sg : ac.tmps.getD 107 undef = .bool true := hdep 3 _ 107 (by decide) rfl rfl
                      have s113 : ac.tmps.getD 113 undef = .bool false := hdep 9 _ 113 (by decide) rfl rfl
                      have s132 : ac.tmps.getD 132 undef = (Value.bool false) := hdep 28 _ 132 (by decide) rfl rfl
                      have s113' := slot' s113
                      have s132' := slot' s132
                      clear hfr hdep
                      refine if_wanted (wanted_yes rfl rfl rfl sg) (fun Q => op_any (fun K hK => ?_))
                      go_simp
                      exact hK _ _ rfl hJ (Below.refl _ _)
                    · intro ac wd hJ hfr hdep
                      have s107 : ac.tmps.getD 107 undef = .bool true := hdep 3 _ 107 (by decide) rfl rfl
                      have s133 : ac.tmps.getD 133 undef = (Value.bool false) := hdep 29 _ 133 (by decide) rfl rfl
                      have s107' := slot' s107
                      have s133' := slot' s133
                      clear hfr hdep
                      refine if_wanted rfl (fun Q => op_any (fun K hK => ?_))
                      go_simp
                      exact hK _ _ rfl hJ (Below.refl _ _)
                    intro f w3 hJ3 hR
                    have e0 : f 0 = .pointer (some ⟨H0, 2, none⟩) := hR 0 (by decide)
                    have e1 : f 1 = .int .i64 rz := hR 1 (by decide)
                    have e2 : f 2 = .bool true := hR 2 (by decide)
                    have e3 : f 3 = .bool true := hR 3 (by decide)
                    have e4 : f 4 = .int .i64 c := hR 4 (by decide)
                    have e5 : f 5 = .int .i64 xr := hR 5 (by decide)
                    have e6 : f 6 = .pointer (some ⟨P0, 0, none⟩) := hR 6 (by decide)
                    have e7 : f 7 = .int .i64 rate := hR 7 (by decide)
                    have e8 : f 8 = .bool false := hR 8 (by decide)
                    have e9 : f 9 = .bool false := hR 9 (by decide)
                    have e10 : f 10 = .int .i64 c := hR 10 (by decide)
                    have e11 : f 11 = .bool false := hR 11 (by decide)
                    have e12 : f 12 = .bool false := hR 12 (by decide)
                    have e13 : f 13 = undef := hR 13 (by decide)
                    have e14 : f 14 = undef := hR 14 (by decide)
                    have e15 : f 15 = undef := hR 15 (by decide)
                    have e16 : f 16 = undef := hR 16 (by decide)
                    have e17 : f 17 = undef := hR 17 (by decide)
                    have e18 : f 18 = undef := hR 18 (by decide)
                    have e19 : f 19 = (Value.bool false) := hR 19 (by decide)
                    have e20 : f 20 = (Value.bool false) := hR 20 (by decide)
                    have e21 : f 21 = undef := hR 21 (by decide)
                    have e22 : f 22 = undef := hR 22 (by decide)
                    have e23 : f 23 = undef := hR 23 (by decide)
                    have e24 : f 24 = undef := hR 24 (by decide)
                    have e25 : f 25 = undef := hR 25 (by decide)
                    have e26 : f 26 = undef := hR 26 (by decide)
                    have e27 : f 27 = undef := hR 27 (by decide)
                    have e28 : f 28 = (Value.bool false) := hR 28 (by decide)
                    have e29 : f 29 = (Value.bool false) := hR 29 (by decide)
                    have e30 : f 30 = (Value.bool false) := hR 30 (by decide)
                    clear hR
                    simp only [finA, Act.put, List.setIfInBounds_toArray, List.set_cons_succ, List.set_cons_zero, Nat.reduceAdd, e0, e1, e2, e3, e4, e5, e6, e7, e8, e9, e10, e11, e12, e13, e14, e15, e16, e17, e18, e19, e20, e21, e22, e23, e24, e25, e26, e27, e28, e29, e30]
                    clear e0 e1 e2 e3 e4 e5 e6 e7 e8 e9 e10 e11 e12 e13 e14 e15 e16 e17 e18 e19 e20 e21 e22 e23 e24 e25 e26 e27 e28 e29 e30
                    have HM3 := Lib.hid (HM.out.below hJ3)
                    clear HM hJ3 HRt
                    go_wp2_with fail
                    go_roundw
                    case rel => exact ⟨k + 1, by omega, .inl hr0, by first | (rw [← Hnx.out]; done) | (rw [← Hnx.out]; rfl), by rw [hz, Hrr0.out]; exact HM3⟩
                    case measure => have := Hc.out; simp [intOf] <;> omega
                  have hcs : c = 12 ∨ c = 13 ∨ c = 14 := by omega
                  clear c12
                  rcases hcs with rfl | rfl | rfl
                  · rw [show topR 12 = 255 from rfl]
                    have eu : unU 12 = 1000 := rfl
                    rw [eu] at HU0
                    have HU := HU0
                    have hxc : hitR rate 12 ↔ (xr = rate ∨ ((12 : Int) ≤ 12 ∧ rate % 1000 = 0 ∧ rate / 1000 ≤ 255)) := Hxr.out
                    obtain ⟨mz, hm2⟩ : ∃ mz, rate % 1000 = mz := ⟨_, rfl⟩
                    obtain ⟨qz, hq2⟩ : ∃ qz, rate / 1000 = qz := ⟨_, rfl⟩
                    have hm1 : rate.tmod 1000 = mz := by rw [Int.tmod_eq_emod_of_nonneg (by omega)]; exact hm2
                    have hq1 : rate.tdiv 1000 = qz := by rw [Int.tdiv_eq_ediv_of_nonneg (by omega)]; exact hq2
                    have hwq : IntKind.i64.wrap qz = qz := by rw [IntKind.wrap_i64]; have := Hr63.out; omega
                    rw [hm2, hq2] at hxc
                    clear Hxr HU0 eu
                    by_cases m0 : mz = 0
                    case neg =>
                      have m0' : (mz == 0) = false := by rw [beq_eq_false_iff_ne]; exact m0
                      have hz : rcR rate (k + 1) = rz := by rw [Hcn.out, if_neg (fun h => by rcases hxc.1 h.2 with h | h; exact x0 h; exact m0 h.2.1)]
                      clear Hcn hxc z0 x0 m0
                      refine wp_region_specs [
                        Spec.val (.pointer (some ⟨H0, 2, none⟩)),
                        Spec.val (.int .i64 rz),
                        Spec.val (.bool true),
                        Spec.val (.bool true),
                        Spec.val (.int .i64 12),
                        Spec.val (.int .i64 xr),
                        Spec.val (.pointer (some ⟨P0, 0, none⟩)),
                        Spec.val (.int .i64 rate),
                        Spec.val (.bool false),
                        Spec.val (.bool false),
                        Spec.val (.int .i64 12),
                        Spec.val (.bool true),
                        Spec.val (.bool true),
                        Spec.val (.pointer (some ⟨P0, 0, none⟩)),
                        Spec.val (.int .i64 rate),
                        Spec.val (.int .i64 12),
                        Spec.val (.int .i64 1000),
                        Spec.val (.int .i64 mz),
                        Spec.val (.bool false),
                        Spec.val (.bool false),
                        Spec.val (.bool false),
                        Spec.val (undef),
                        Spec.val (undef),
                        Spec.val (undef),
                        Spec.val (undef),
                        Spec.val (undef),
                        Spec.val (undef),
                        Spec.val (undef),
                        Spec.val ((Value.bool false)),
                        Spec.val ((Value.bool false)),
                        Spec.val ((Value.bool false))] w1 (by kernel_rfl) (by repeat (first | exact Below.refl _ _ | assumption | refine below_drewN ?_ _ | refine Below.drew ?_ | refine Below.alloc ?_ (Nat.le_refl _) _ | refine bal ?_ _ | refine bnext ?_ (by assumption))) (n := 155) rfl (by decide +kernel) ⟨?_, ?_, ?_, ?_, ?_, ?_, ?_, ?_, ?_, ?_, ?_, ?_, ?_, ?_, ?_, ?_, ?_, ?_, ?_, ?_, ?_, ?_, ?_, ?_, ?_, ?_, ?_, ?_, ?_, ?_, ?_, trivial⟩ ?_
                      · intro ac wd hJ hfr hdep
                        have s13 : ac.tmps.getD 13 undef = .pointer (some ⟨H0, 0, none⟩) := (hfr 13 (by decide)).trans rfl
                        have s13' := slot' s13
                        clear hfr hdep
                        refine if_wanted rfl (fun Q => op_any (fun K hK => ?_))
                        go_simp
                        exact hK _ _ rfl hJ (Below.refl _ _)
                      · intro ac wd hJ hfr hdep
                        have s104 : ac.tmps.getD 104 undef = .pointer (some ⟨H0, 2, none⟩) := hdep 0 _ 104 (by decide) rfl rfl
                        have s104' := slot' s104
                        clear hfr hdep
                        refine if_wanted rfl (fun Q => op_any (fun K hK => ?_))
                        have hq := (HM.out.below hJ).h.c 2 (.int .i64 rz) rfl
                        go_simp
                        exact hK _ _ rfl hJ (Below.refl _ _)
                      · intro ac wd hJ hfr hdep
                        have s105 : ac.tmps.getD 105 undef = .int .i64 rz := hdep 1 _ 105 (by decide) rfl rfl
                        have s105' := slot' s105
                        clear hfr hdep
                        refine if_wanted rfl (fun Q => op_any (fun K hK => ?_))
                        go_simp
                        exact hK _ _ rfl hJ (Below.refl _ _)
                      · intro ac wd hJ hfr hdep
                        have s106 : ac.tmps.getD 106 undef = .bool true := hdep 2 _ 106 (by decide) rfl rfl
                        have s106' := slot' s106
                        clear hfr hdep
                        refine if_wanted rfl (fun Q => op_any (fun K hK => ?_))
                        go_simp
                        exact hK _ _ rfl hJ (Below.refl _ _)
                      · intro ac wd hJ hfr hdep
                        have sg : ac.tmps.getD 107 undef = .bool true := hdep 3 _ 107 (by decide) rfl rfl
                        have s15 : ac.tmps.getD 15 undef = .int .i64 12 := (hfr 15 (by decide)).trans rfl
                        have s15' := slot' s15
                        clear hfr hdep
                        refine if_wanted (wanted_yes rfl rfl rfl sg) (fun Q => op_any (fun K hK => ?_))
                        go_simp
                        exact hK _ _ rfl hJ (Below.refl _ _)
                      · intro ac wd hJ hfr hdep
                        have sg : ac.tmps.getD 107 undef = .bool true := hdep 3 _ 107 (by decide) rfl rfl
                        have s108 : ac.tmps.getD 108 undef = .int .i64 12 := hdep 4 _ 108 (by decide) rfl rfl
                        have s108' := slot' s108
                        clear hfr hdep
                        refine if_wanted (wanted_yes rfl rfl rfl sg) (fun Q => op_any (fun K hK => ?_))
                        go_simp
                        refine (HRt.out _).mono ?_
                        rintro e wz ⟨rfl, hbz⟩
                        exact hK _ _ rfl (bnext hJ hbz) hbz
                      · intro ac wd hJ hfr hdep
                        have sg : ac.tmps.getD 107 undef = .bool true := hdep 3 _ 107 (by decide) rfl rfl
                        have s9 : ac.tmps.getD 9 undef = .pointer (some ⟨P0, 0, none⟩) := (hfr 9 (by decide)).trans rfl
                        have s9' := slot' s9
                        clear hfr hdep
                        refine if_wanted (wanted_yes rfl rfl rfl sg) (fun Q => op_any (fun K hK => ?_))
                        go_simp
                        exact hK _ _ rfl hJ (Below.refl _ _)
                      · intro ac wd hJ hfr hdep
                        have sg : ac.tmps.getD 107 undef = .bool true := hdep 3 _ 107 (by decide) rfl rfl
                        have s110 : ac.tmps.getD 110 undef = .pointer (some ⟨P0, 0, none⟩) := hdep 6 _ 110 (by decide) rfl rfl
                        have s110' := slot' s110
                        clear hfr hdep
                        refine if_wanted (wanted_yes rfl rfl rfl sg) (fun Q => op_any (fun K hK => ?_))
                        have hq := (HM.out.below hJ).p0
                        go_simp
                        exact hK _ _ rfl hJ (Below.refl _ _)
                      · intro ac wd hJ hfr hdep
                        have sg : ac.tmps.getD 107 undef = .bool true := hdep 3 _ 107 (by decide) rfl rfl
                        have s109 : ac.tmps.getD 109 undef = .int .i64 xr := hdep 5 _ 109 (by decide) rfl rfl
                        have s111 : ac.tmps.getD 111 undef = .int .i64 rate := hdep 7 _ 111 (by decide) rfl rfl
                        have s109' := slot' s109
                        have s111' := slot' s111
                        clear hfr hdep
                        refine if_wanted (wanted_yes rfl rfl rfl sg) (fun Q => op_any (fun K hK => ?_))
                        go_simp
                        exact hK _ _ rfl hJ (Below.refl _ _)
                      · intro ac wd hJ hfr hdep
                        have sg : ac.tmps.getD 107 undef = .bool true := hdep 3 _ 107 (by decide) rfl rfl
                        have s112 : ac.tmps.getD 112 undef = .bool false := hdep 8 _ 112 (by decide) rfl rfl
                        have s112' := slot' s112
                        clear hfr hdep
                        refine if_wanted (wanted_yes rfl rfl rfl sg) (fun Q => op_any (fun K hK => ?_))
                        go_simp
                        exact hK _ _ rfl hJ (Below.refl _ _)
                      · intro ac wd hJ hfr hdep
                        have sg : ac.tmps.getD 113 undef = .bool false := hdep 9 _ 113 (by decide) rfl rfl
                        have s15 : ac.tmps.getD 15 undef = .int .i64 12 := (hfr 15 (by decide)).trans rfl
                        have s15' := slot' s15
                        clear hfr hdep
                        refine if_wanted (wanted_yes rfl rfl rfl sg) (fun Q => op_any (fun K hK => ?_))
                        go_simp
                        exact hK _ _ rfl hJ (Below.refl _ _)
                      · intro ac wd hJ hfr hdep
                        have sg : ac.tmps.getD 113 undef = .bool false := hdep 9 _ 113 (by decide) rfl rfl
                        have s114 : ac.tmps.getD 114 undef = .int .i64 12 := hdep 10 _ 114 (by decide) rfl rfl
                        have s114' := slot' s114
                        clear hfr hdep
                        refine if_wanted (wanted_yes rfl rfl rfl sg) (fun Q => op_any (fun K hK => ?_))
                        go_simp
                        exact hK _ _ rfl hJ (Below.refl _ _)
                      · intro ac wd hJ hfr hdep
                        have sg : ac.tmps.getD 113 undef = .bool false := hdep 9 _ 113 (by decide) rfl rfl
                        have s115 : ac.tmps.getD 115 undef = .bool true := hdep 11 _ 115 (by decide) rfl rfl
                        have s115' := slot' s115
                        clear hfr hdep
                        refine if_wanted (wanted_yes rfl rfl rfl sg) (fun Q => op_any (fun K hK => ?_))
                        go_simp
                        exact hK _ _ rfl hJ (Below.refl _ _)
                      · intro ac wd hJ hfr hdep
                        have sg : ac.tmps.getD 116 undef = .bool true := hdep 12 _ 116 (by decide) rfl rfl
                        have s9 : ac.tmps.getD 9 undef = .pointer (some ⟨P0, 0, none⟩) := (hfr 9 (by decide)).trans rfl
                        have s9' := slot' s9
                        clear hfr hdep
                        refine if_wanted (wanted_yes rfl rfl rfl sg) (fun Q => op_any (fun K hK => ?_))
                        go_simp
                        exact hK _ _ rfl hJ (Below.refl _ _)
                      · intro ac wd hJ hfr hdep
                        have sg : ac.tmps.getD 116 undef = .bool true := hdep 12 _ 116 (by decide) rfl rfl
                        have s117 : ac.tmps.getD 117 undef = .pointer (some ⟨P0, 0, none⟩) := hdep 13 _ 117 (by decide) rfl rfl
                        have s117' := slot' s117
                        clear hfr hdep
                        refine if_wanted (wanted_yes rfl rfl rfl sg) (fun Q => op_any (fun K hK => ?_))
                        have hq := (HM.out.below hJ).p0
                        go_simp
                        exact hK _ _ rfl hJ (Below.refl _ _)
                      · intro ac wd hJ hfr hdep
                        have sg : ac.tmps.getD 116 undef = .bool true := hdep 12 _ 116 (by decide) rfl rfl
                        have s15 : ac.tmps.getD 15 undef = .int .i64 12 := (hfr 15 (by decide)).trans rfl
                        have s15' := slot' s15
                        clear hfr hdep
                        refine if_wanted (wanted_yes rfl rfl rfl sg) (fun Q => op_any (fun K hK => ?_))
                        go_simp
                        exact hK _ _ rfl hJ (Below.refl _ _)
                      · intro ac wd hJ hfr hdep
                        have sg : ac.tmps.getD 116 undef = .bool true := hdep 12 _ 116 (by decide) rfl rfl
                        have s119 : ac.tmps.getD 119 undef = .int .i64 12 := hdep 15 _ 119 (by decide) rfl rfl
                        have s119' := slot' s119
                        clear hfr hdep
                        refine if_wanted (wanted_yes rfl rfl rfl sg) (fun Q => op_any (fun K hK => ?_))
                        go_simp
                        refine (HU.out _).mono ?_
                        rintro e wz ⟨rfl, rfl⟩
                        exact hK _ _ rfl hJ (Below.refl _ _)
                      · intro ac wd hJ hfr hdep
                        have sg : ac.tmps.getD 116 undef = .bool true := hdep 12 _ 116 (by decide) rfl rfl
                        have s118 : ac.tmps.getD 118 undef = .int .i64 rate := hdep 14 _ 118 (by decide) rfl rfl
                        have s120 : ac.tmps.getD 120 undef = .int .i64 1000 := hdep 16 _ 120 (by decide) rfl rfl
                        have s118' := slot' s118
                        have s120' := slot' s120
                        clear hfr hdep
                        refine if_wanted (wanted_yes rfl rfl rfl sg) (fun Q => op_any (fun K hK => ?_))
                        go_simp
                        exact hK _ _ rfl hJ (Below.refl _ _)
                      · intro ac wd hJ hfr hdep
                        have sg : ac.tmps.getD 116 undef = .bool true := hdep 12 _ 116 (by decide) rfl rfl
                        have s121 : ac.tmps.getD 121 undef = .int .i64 mz := hdep 17 _ 121 (by decide) rfl rfl
                        have s121' := slot' s121
                        clear hfr hdep
                        refine if_wanted (wanted_yes rfl rfl rfl sg) (fun Q => op_any (fun K hK => ?_))
                        go_simp
                        exact hK _ _ rfl hJ (Below.refl _ _)
                      · intro ac wd hJ hfr hdep
                        have sg : ac.tmps.getD 113 undef = .bool false := hdep 9 _ 113 (by decide) rfl rfl
                        have s116 : ac.tmps.getD 116 undef = .bool true := hdep 12 _ 116 (by decide) rfl rfl
                        have s122 : ac.tmps.getD 122 undef = .bool false := hdep 18 _ 122 (by decide) rfl rfl
                        have s116' := slot' s116
                        have s122' := slot' s122
                        clear hfr hdep
                        refine if_wanted (wanted_yes rfl rfl rfl sg) (fun Q => op_any (fun K hK => ?_))
                        go_simp
                        exact hK _ _ rfl hJ (Below.refl _ _)
                      · intro ac wd hJ hfr hdep
                        have sg : ac.tmps.getD 113 undef = .bool false := hdep 9 _ 113 (by decide) rfl rfl
                        have s123 : ac.tmps.getD 123 undef = .bool false := hdep 19 _ 123 (by decide) rfl rfl
                        have s123' := slot' s123
                        clear hfr hdep
                        refine if_wanted (wanted_yes rfl rfl rfl sg) (fun Q => op_any (fun K hK => ?_))
                        go_simp
                        exact hK _ _ rfl hJ (Below.refl _ _)
                      · intro ac wd hJ hfr hdep
                        have sg : ac.tmps.getD 124 undef = .bool false := hdep 20 _ 124 (by decide) rfl rfl
                        exact if_unwanted (wanted_no rfl rfl rfl sg (by decide)) rfl
                      · intro ac wd hJ hfr hdep
                        have sg : ac.tmps.getD 124 undef = .bool false := hdep 20 _ 124 (by decide) rfl rfl
                        exact if_unwanted (wanted_no rfl rfl rfl sg (by decide)) rfl
                      · intro ac wd hJ hfr hdep
                        have sg : ac.tmps.getD 124 undef = .bool false := hdep 20 _ 124 (by decide) rfl rfl
                        exact if_unwanted (wanted_no rfl rfl rfl sg (by decide)) rfl
                      · intro ac wd hJ hfr hdep
                        have sg : ac.tmps.getD 124 undef = .bool false := hdep 20 _ 124 (by decide) rfl rfl
                        exact if_unwanted (wanted_no rfl rfl rfl sg (by decide)) rfl
                      · intro ac wd hJ hfr hdep
                        have sg : ac.tmps.getD 124 undef = .bool false := hdep 20 _ 124 (by decide) rfl rfl
                        exact if_unwanted (wanted_no rfl rfl rfl sg (by decide)) rfl
                      · intro ac wd hJ hfr hdep
                        have sg : ac.tmps.getD 124 undef = .bool false := hdep 20 _ 124 (by decide) rfl rfl
                        exact if_unwanted (wanted_no rfl rfl rfl sg (by decide)) rfl
                      · intro ac wd hJ hfr hdep
                        have sg : ac.tmps.getD 124 undef = .bool false := hdep 20 _ 124 (by decide) rfl rfl
                        exact if_unwanted (wanted_no rfl rfl rfl sg (by decide)) rfl
                      · intro ac wd hJ hfr hdep
                        have sg : ac.tmps.getD 113 undef = .bool false := hdep 9 _ 113 (by decide) rfl rfl
                        have s124 : ac.tmps.getD 124 undef = .bool false := hdep 20 _ 124 (by decide) rfl rfl
                        have s131 : ac.tmps.getD 131 undef = undef := hdep 27 _ 131 (by decide) rfl rfl
                        have s124' := slot' s124
                        have s131' := slot' s131
                        clear hfr hdep
                        refine if_wanted (wanted_yes rfl rfl rfl sg) (fun Q => op_any (fun K hK => ?_))
                        go_simp
                        exact hK _ _ rfl hJ (Below.refl _ _)
                      · intro ac wd hJ hfr hdep
                        have sg : ac.tmps.getD 107 undef = .bool true := hdep 3 _ 107 (by decide) rfl rfl
                        have s113 : ac.tmps.getD 113 undef = .bool false := hdep 9 _ 113 (by decide) rfl rfl
                        have s132 : ac.tmps.getD 132 undef = (Value.bool false) := hdep 28 _ 132 (by decide) rfl rfl
                        have s113' := slot' s113
                        have s132' := slot' s132
                        clear hfr hdep
                        refine if_wanted (wanted_yes rfl rfl rfl sg) (fun Q => op_any (fun K hK => ?_))
                        go_simp
                        exact hK _ _ rfl hJ (Below.refl _ _)
                      · intro ac wd hJ hfr hdep
                        have s107 : ac.tmps.getD 107 undef = .bool true := hdep 3 _ 107 (by decide) rfl rfl
                        have s133 : ac.tmps.getD 133 undef = (Value.bool false) := hdep 29 _ 133 (by decide) rfl rfl
                        have s107' := slot' s107
                        have s133' := slot' s133
                        clear hfr hdep
                        refine if_wanted rfl (fun Q => op_any (fun K hK => ?_))
                        go_simp
                        exact hK _ _ rfl hJ (Below.refl _ _)
                      intro f w3 hJ3 hR
                      have e0 : f 0 = .pointer (some ⟨H0, 2, none⟩) := hR 0 (by decide)
                      have e1 : f 1 = .int .i64 rz := hR 1 (by decide)
                      have e2 : f 2 = .bool true := hR 2 (by decide)
                      have e3 : f 3 = .bool true := hR 3 (by decide)
                      have e4 : f 4 = .int .i64 12 := hR 4 (by decide)
                      have e5 : f 5 = .int .i64 xr := hR 5 (by decide)
                      have e6 : f 6 = .pointer (some ⟨P0, 0, none⟩) := hR 6 (by decide)
                      have e7 : f 7 = .int .i64 rate := hR 7 (by decide)
                      have e8 : f 8 = .bool false := hR 8 (by decide)
                      have e9 : f 9 = .bool false := hR 9 (by decide)
                      have e10 : f 10 = .int .i64 12 := hR 10 (by decide)
                      have e11 : f 11 = .bool true := hR 11 (by decide)
                      have e12 : f 12 = .bool true := hR 12 (by decide)
                      have e13 : f 13 = .pointer (some ⟨P0, 0, none⟩) := hR 13 (by decide)
                      have e14 : f 14 = .int .i64 rate := hR 14 (by decide)
                      have e15 : f 15 = .int .i64 12 := hR 15 (by decide)
                      have e16 : f 16 = .int .i64 1000 := hR 16 (by decide)
                      have e17 : f 17 = .int .i64 mz := hR 17 (by decide)
                      have e18 : f 18 = .bool false := hR 18 (by decide)
                      have e19 : f 19 = .bool false := hR 19 (by decide)
                      have e20 : f 20 = .bool false := hR 20 (by decide)
                      have e21 : f 21 = undef := hR 21 (by decide)
                      have e22 : f 22 = undef := hR 22 (by decide)
                      have e23 : f 23 = undef := hR 23 (by decide)
                      have e24 : f 24 = undef := hR 24 (by decide)
                      have e25 : f 25 = undef := hR 25 (by decide)
                      have e26 : f 26 = undef := hR 26 (by decide)
                      have e27 : f 27 = undef := hR 27 (by decide)
                      have e28 : f 28 = (Value.bool false) := hR 28 (by decide)
                      have e29 : f 29 = (Value.bool false) := hR 29 (by decide)
                      have e30 : f 30 = (Value.bool false) := hR 30 (by decide)
                      clear hR
                      simp only [finA, Act.put, List.setIfInBounds_toArray, List.set_cons_succ, List.set_cons_zero, Nat.reduceAdd, e0, e1, e2, e3, e4, e5, e6, e7, e8, e9, e10, e11, e12, e13, e14, e15, e16, e17, e18, e19, e20, e21, e22, e23, e24, e25, e26, e27, e28, e29, e30]
                      clear e0 e1 e2 e3 e4 e5 e6 e7 e8 e9 e10 e11 e12 e13 e14 e15 e16 e17 e18 e19 e20 e21 e22 e23 e24 e25 e26 e27 e28 e29 e30
                      have HM3 := Lib.hid (HM.out.below hJ3)
                      clear HM hJ3 HRt
                      go_wp2_with fail
                      go_roundw
                      case rel => exact ⟨k + 1, by omega, .inl hr0, by first | (rw [← Hnx.out]; done) | (rw [← Hnx.out]; rfl), by rw [hz, Hrr0.out]; exact HM3⟩
                      case measure => have := Hc.out; simp [intOf] <;> omega
                    have m0' : (mz == 0) = true := by rw [beq_iff_eq]; exact m0
                    have Hcn2 : Hid (rcR rate (k + 1) = if qz ≤ 255 then 12 else rz) := by
                      show _ = _
                      rw [Hcn.out]
                      by_cases q : qz ≤ 255
                      · rw [if_pos q, if_pos ⟨z0, hxc.2 (.inr ⟨by decide, m0, q⟩)⟩]
                      · rw [if_neg q, if_neg (fun h => by rcases hxc.1 h.2 with h | h; exact x0 h; exact q h.2.2)]
                    clear Hcn hxc z0 x0 m0 hm2 hq2
                    refine wp_region_specs [
                      Spec.val (.pointer (some ⟨H0, 2, none⟩)),
                      Spec.val (.int .i64 rz),
                      Spec.val (.bool true),
                      Spec.val (.bool true),
                      Spec.val (.int .i64 12),
                      Spec.val (.int .i64 xr),
                      Spec.val (.pointer (some ⟨P0, 0, none⟩)),
                      Spec.val (.int .i64 rate),
                      Spec.val (.bool false),
                      Spec.val (.bool false),
                      Spec.val (.int .i64 12),
                      Spec.val (.bool true),
                      Spec.val (.bool true),
                      Spec.val (.pointer (some ⟨P0, 0, none⟩)),
                      Spec.val (.int .i64 rate),
                      Spec.val (.int .i64 12),
                      Spec.val (.int .i64 1000),
                      Spec.val (.int .i64 mz),
                      Spec.val (.bool true),
                      Spec.val (.bool true),
                      Spec.val (.bool true),
                      Spec.val (.pointer (some ⟨P0, 0, none⟩)),
                      Spec.val (.int .i64 rate),
                      Spec.val (.int .i64 12),
                      Spec.val (.int .i64 1000),
                      Spec.val (.int .i64 qz),
                      Spec.val (.int .i64 255),
                      Spec.val (.bool (decide (qz ≤ 255))),
                      Spec.val (.bool (decide (qz ≤ 255))),
                      Spec.val (.bool (decide (qz ≤ 255))),
                      Spec.val (.bool (decide (qz ≤ 255)))] w1 (by kernel_rfl) (by repeat (first | exact Below.refl _ _ | assumption | refine below_drewN ?_ _ | refine Below.drew ?_ | refine Below.alloc ?_ (Nat.le_refl _) _ | refine bal ?_ _ | refine bnext ?_ (by assumption))) (n := 155) rfl (by decide +kernel) ⟨?_, ?_, ?_, ?_, ?_, ?_, ?_, ?_, ?_, ?_, ?_, ?_, ?_, ?_, ?_, ?_, ?_, ?_, ?_, ?_, ?_, ?_, ?_, ?_, ?_, ?_, ?_, ?_, ?_, ?_, ?_, trivial⟩ ?_
                    · intro ac wd hJ hfr hdep
                      have s13 : ac.tmps.getD 13 undef = .pointer (some ⟨H0, 0, none⟩) := (hfr 13 (by decide)).trans rfl
                      have s13' := slot' s13
                      clear hfr hdep
                      refine if_wanted rfl (fun Q => op_any (fun K hK => ?_))
                      go_simp
                      exact hK _ _ rfl hJ (Below.refl _ _)
                    · intro ac wd hJ hfr hdep
                      have s104 : ac.tmps.getD 104 undef = .pointer (some ⟨H0, 2, none⟩) := hdep 0 _ 104 (by decide) rfl rfl
                      have s104' := slot' s104
                      clear hfr hdep
                      refine if_wanted rfl (fun Q => op_any (fun K hK => ?_))
                      have hq := (HM.out.below hJ).h.c 2 (.int .i64 rz) rfl
                      go_simp
                      exact hK _ _ rfl hJ (Below.refl _ _)
                    · intro ac wd hJ hfr hdep
                      have s105 : ac.tmps.getD 105 undef = .int .i64 rz := hdep 1 _ 105 (by decide) rfl rfl
                      have s105' := slot' s105
                      clear hfr hdep
                      refine if_wanted rfl (fun Q => op_any (fun K hK => ?_))
                      go_simp
                      exact hK _ _ rfl hJ (Below.refl _ _)
                    · intro ac wd hJ hfr hdep
                      have s106 : ac.tmps.getD 106 undef = .bool true := hdep 2 _ 106 (by decide) rfl rfl
                      have s106' := slot' s106
                      clear hfr hdep
                      refine if_wanted rfl (fun Q => op_any (fun K hK => ?_))
                      go_simp
                      exact hK _ _ rfl hJ (Below.refl _ _)
                    · intro ac wd hJ hfr hdep
                      have sg : ac.tmps.getD 107 undef = .bool true := hdep 3 _ 107 (by decide) rfl rfl
                      have s15 : ac.tmps.getD 15 undef = .int .i64 12 := (hfr 15 (by decide)).trans rfl
                      have s15' := slot' s15
                      clear hfr hdep
                      refine if_wanted (wanted_yes rfl rfl rfl sg) (fun Q => op_any (fun K hK => ?_))
                      go_simp
                      exact hK _ _ rfl hJ (Below.refl _ _)
                    · intro ac wd hJ hfr hdep
                      have sg : ac.tmps.getD 107 undef = .bool true := hdep 3 _ 107 (by decide) rfl rfl
                      have s108 : ac.tmps.getD 108 undef = .int .i64 12 := hdep 4 _ 108 (by decide) rfl rfl
                      have s108' := slot' s108
                      clear hfr hdep
                      refine if_wanted (wanted_yes rfl rfl rfl sg) (fun Q => op_any (fun K hK => ?_))
                      go_simp
                      refine (HRt.out _).mono ?_
                      rintro e wz ⟨rfl, hbz⟩
                      exact hK _ _ rfl (bnext hJ hbz) hbz
                    · intro ac wd hJ hfr hdep
                      have sg : ac.tmps.getD 107 undef = .bool true := hdep 3 _ 107 (by decide) rfl rfl
                      have s9 : ac.tmps.getD 9 undef = .pointer (some ⟨P0, 0, none⟩) := (hfr 9 (by decide)).trans rfl
                      have s9' := slot' s9
                      clear hfr hdep
                      refine if_wanted (wanted_yes rfl rfl rfl sg) (fun Q => op_any (fun K hK => ?_))
                      go_simp
                      exact hK _ _ rfl hJ (Below.refl _ _)
                    · intro ac wd hJ hfr hdep
                      have sg : ac.tmps.getD 107 undef = .bool true := hdep 3 _ 107 (by decide) rfl rfl
                      have s110 : ac.tmps.getD 110 undef = .pointer (some ⟨P0, 0, none⟩) := hdep 6 _ 110 (by decide) rfl rfl
                      have s110' := slot' s110
                      clear hfr hdep
                      refine if_wanted (wanted_yes rfl rfl rfl sg) (fun Q => op_any (fun K hK => ?_))
                      have hq := (HM.out.below hJ).p0
                      go_simp
                      exact hK _ _ rfl hJ (Below.refl _ _)
                    · intro ac wd hJ hfr hdep
                      have sg : ac.tmps.getD 107 undef = .bool true := hdep 3 _ 107 (by decide) rfl rfl
                      have s109 : ac.tmps.getD 109 undef = .int .i64 xr := hdep 5 _ 109 (by decide) rfl rfl
                      have s111 : ac.tmps.getD 111 undef = .int .i64 rate := hdep 7 _ 111 (by decide) rfl rfl
                      have s109' := slot' s109
                      have s111' := slot' s111
                      clear hfr hdep
                      refine if_wanted (wanted_yes rfl rfl rfl sg) (fun Q => op_any (fun K hK => ?_))
                      go_simp
                      exact hK _ _ rfl hJ (Below.refl _ _)
                    · intro ac wd hJ hfr hdep
                      have sg : ac.tmps.getD 107 undef = .bool true := hdep 3 _ 107 (by decide) rfl rfl
                      have s112 : ac.tmps.getD 112 undef = .bool false := hdep 8 _ 112 (by decide) rfl rfl
                      have s112' := slot' s112
                      clear hfr hdep
                      refine if_wanted (wanted_yes rfl rfl rfl sg) (fun Q => op_any (fun K hK => ?_))
                      go_simp
                      exact hK _ _ rfl hJ (Below.refl _ _)
                    · intro ac wd hJ hfr hdep
                      have sg : ac.tmps.getD 113 undef = .bool false := hdep 9 _ 113 (by decide) rfl rfl
                      have s15 : ac.tmps.getD 15 undef = .int .i64 12 := (hfr 15 (by decide)).trans rfl
                      have s15' := slot' s15
                      clear hfr hdep
                      refine if_wanted (wanted_yes rfl rfl rfl sg) (fun Q => op_any (fun K hK => ?_))
                      go_simp
                      exact hK _ _ rfl hJ (Below.refl _ _)
                    · intro ac wd hJ hfr hdep
                      have sg : ac.tmps.getD 113 undef = .bool false := hdep 9 _ 113 (by decide) rfl rfl
                      have s114 : ac.tmps.getD 114 undef = .int .i64 12 := hdep 10 _ 114 (by decide) rfl rfl
                      have s114' := slot' s114
                      clear hfr hdep
                      refine if_wanted (wanted_yes rfl rfl rfl sg) (fun Q => op_any (fun K hK => ?_))
                      go_simp
                      exact hK _ _ rfl hJ (Below.refl _ _)
                    · intro ac wd hJ hfr hdep
                      have sg : ac.tmps.getD 113 undef = .bool false := hdep 9 _ 113 (by decide) rfl rfl
                      have s115 : ac.tmps.getD 115 undef = .bool true := hdep 11 _ 115 (by decide) rfl rfl
                      have s115' := slot' s115
                      clear hfr hdep
                      refine if_wanted (wanted_yes rfl rfl rfl sg) (fun Q => op_any (fun K hK => ?_))
                      go_simp
                      exact hK _ _ rfl hJ (Below.refl _ _)
                    · intro ac wd hJ hfr hdep
                      have sg : ac.tmps.getD 116 undef = .bool true := hdep 12 _ 116 (by decide) rfl rfl
                      have s9 : ac.tmps.getD 9 undef = .pointer (some ⟨P0, 0, none⟩) := (hfr 9 (by decide)).trans rfl
                      have s9' := slot' s9
                      clear hfr hdep
                      refine if_wanted (wanted_yes rfl rfl rfl sg) (fun Q => op_any (fun K hK => ?_))
                      go_simp
                      exact hK _ _ rfl hJ (Below.refl _ _)
                    · intro ac wd hJ hfr hdep
                      have sg : ac.tmps.getD 116 undef = .bool true := hdep 12 _ 116 (by decide) rfl rfl
                      have s117 : ac.tmps.getD 117 undef = .pointer (some ⟨P0, 0, none⟩) := hdep 13 _ 117 (by decide) rfl rfl
                      have s117' := slot' s117
                      clear hfr hdep
                      refine if_wanted (wanted_yes rfl rfl rfl sg) (fun Q => op_any (fun K hK => ?_))
                      have hq := (HM.out.below hJ).p0
                      go_simp
                      exact hK _ _ rfl hJ (Below.refl _ _)
                    · intro ac wd hJ hfr hdep
                      have sg : ac.tmps.getD 116 undef = .bool true := hdep 12 _ 116 (by decide) rfl rfl
                      have s15 : ac.tmps.getD 15 undef = .int .i64 12 := (hfr 15 (by decide)).trans rfl
                      have s15' := slot' s15
                      clear hfr hdep
                      refine if_wanted (wanted_yes rfl rfl rfl sg) (fun Q => op_any (fun K hK => ?_))
                      go_simp
                      exact hK _ _ rfl hJ (Below.refl _ _)
                    · intro ac wd hJ hfr hdep
                      have sg : ac.tmps.getD 116 undef = .bool true := hdep 12 _ 116 (by decide) rfl rfl
                      have s119 : ac.tmps.getD 119 undef = .int .i64 12 := hdep 15 _ 119 (by decide) rfl rfl
                      have s119' := slot' s119
                      clear hfr hdep
                      refine if_wanted (wanted_yes rfl rfl rfl sg) (fun Q => op_any (fun K hK => ?_))
                      go_simp
                      refine (HU.out _).mono ?_
                      rintro e wz ⟨rfl, rfl⟩
                      exact hK _ _ rfl hJ (Below.refl _ _)
                    · intro ac wd hJ hfr hdep
                      have sg : ac.tmps.getD 116 undef = .bool true := hdep 12 _ 116 (by decide) rfl rfl
                      have s118 : ac.tmps.getD 118 undef = .int .i64 rate := hdep 14 _ 118 (by decide) rfl rfl
                      have s120 : ac.tmps.getD 120 undef = .int .i64 1000 := hdep 16 _ 120 (by decide) rfl rfl
                      have s118' := slot' s118
                      have s120' := slot' s120
                      clear hfr hdep
                      refine if_wanted (wanted_yes rfl rfl rfl sg) (fun Q => op_any (fun K hK => ?_))
                      go_simp
                      exact hK _ _ rfl hJ (Below.refl _ _)
                    · intro ac wd hJ hfr hdep
                      have sg : ac.tmps.getD 116 undef = .bool true := hdep 12 _ 116 (by decide) rfl rfl
                      have s121 : ac.tmps.getD 121 undef = .int .i64 mz := hdep 17 _ 121 (by decide) rfl rfl
                      have s121' := slot' s121
                      clear hfr hdep
                      refine if_wanted (wanted_yes rfl rfl rfl sg) (fun Q => op_any (fun K hK => ?_))
                      go_simp
                      exact hK _ _ rfl hJ (Below.refl _ _)
                    · intro ac wd hJ hfr hdep
                      have sg : ac.tmps.getD 113 undef = .bool false := hdep 9 _ 113 (by decide) rfl rfl
                      have s116 : ac.tmps.getD 116 undef = .bool true := hdep 12 _ 116 (by decide) rfl rfl
                      have s122 : ac.tmps.getD 122 undef = .bool true := hdep 18 _ 122 (by decide) rfl rfl
                      have s116' := slot' s116
                      have s122' := slot' s122
                      clear hfr hdep
                      refine if_wanted (wanted_yes rfl rfl rfl sg) (fun Q => op_any (fun K hK => ?_))
                      go_simp
                      exact hK _ _ rfl hJ (Below.refl _ _)
                    · intro ac wd hJ hfr hdep
                      have sg : ac.tmps.getD 113 undef = .bool false := hdep 9 _ 113 (by decide) rfl rfl
                      have s123 : ac.tmps.getD 123 undef = .bool true := hdep 19 _ 123 (by decide) rfl rfl
                      have s123' := slot' s123
                      clear hfr hdep
                      refine if_wanted (wanted_yes rfl rfl rfl sg) (fun Q => op_any (fun K hK => ?_))
                      go_simp
                      exact hK _ _ rfl hJ (Below.refl _ _)
                    · intro ac wd hJ hfr hdep
                      have sg : ac.tmps.getD 124 undef = .bool true := hdep 20 _ 124 (by decide) rfl rfl
                      have s9 : ac.tmps.getD 9 undef = .pointer (some ⟨P0, 0, none⟩) := (hfr 9 (by decide)).trans rfl
                      have s9' := slot' s9
                      clear hfr hdep
                      refine if_wanted (wanted_yes rfl rfl rfl sg) (fun Q => op_any (fun K hK => ?_))
                      go_simp
                      exact hK _ _ rfl hJ (Below.refl _ _)
                    · intro ac wd hJ hfr hdep
                      have sg : ac.tmps.getD 124 undef = .bool true := hdep 20 _ 124 (by decide) rfl rfl
                      have s125 : ac.tmps.getD 125 undef = .pointer (some ⟨P0, 0, none⟩) := hdep 21 _ 125 (by decide) rfl rfl
                      have s125' := slot' s125
                      clear hfr hdep
                      refine if_wanted (wanted_yes rfl rfl rfl sg) (fun Q => op_any (fun K hK => ?_))
                      have hq := (HM.out.below hJ).p0
                      go_simp
                      exact hK _ _ rfl hJ (Below.refl _ _)
                    · intro ac wd hJ hfr hdep
                      have sg : ac.tmps.getD 124 undef = .bool true := hdep 20 _ 124 (by decide) rfl rfl
                      have s15 : ac.tmps.getD 15 undef = .int .i64 12 := (hfr 15 (by decide)).trans rfl
                      have s15' := slot' s15
                      clear hfr hdep
                      refine if_wanted (wanted_yes rfl rfl rfl sg) (fun Q => op_any (fun K hK => ?_))
                      go_simp
                      exact hK _ _ rfl hJ (Below.refl _ _)
                    · intro ac wd hJ hfr hdep
                      have sg : ac.tmps.getD 124 undef = .bool true := hdep 20 _ 124 (by decide) rfl rfl
                      have s127 : ac.tmps.getD 127 undef = .int .i64 12 := hdep 23 _ 127 (by decide) rfl rfl
                      have s127' := slot' s127
                      clear hfr hdep
                      refine if_wanted (wanted_yes rfl rfl rfl sg) (fun Q => op_any (fun K hK => ?_))
                      go_simp
                      refine (HU.out _).mono ?_
                      rintro e wz ⟨rfl, rfl⟩
                      exact hK _ _ rfl hJ (Below.refl _ _)
                    · intro ac wd hJ hfr hdep
                      have sg : ac.tmps.getD 124 undef = .bool true := hdep 20 _ 124 (by decide) rfl rfl
                      have s126 : ac.tmps.getD 126 undef = .int .i64 rate := hdep 22 _ 126 (by decide) rfl rfl
                      have s128 : ac.tmps.getD 128 undef = .int .i64 1000 := hdep 24 _ 128 (by decide) rfl rfl
                      have s126' := slot' s126
                      have s128' := slot' s128
                      clear hfr hdep
                      refine if_wanted (wanted_yes rfl rfl rfl sg) (fun Q => op_any (fun K hK => ?_))
                      go_simp
                      exact hK _ _ rfl hJ (Below.refl _ _)
                    · intro ac wd hJ hfr hdep
                      have sg : ac.tmps.getD 124 undef = .bool true := hdep 20 _ 124 (by decide) rfl rfl
                      have s16 : ac.tmps.getD 16 undef = .int .i64 255 := (hfr 16 (by decide)).trans rfl
                      have s16' := slot' s16
                      clear hfr hdep
                      refine if_wanted (wanted_yes rfl rfl rfl sg) (fun Q => op_any (fun K hK => ?_))
                      go_simp
                      exact hK _ _ rfl hJ (Below.refl _ _)
                    · intro ac wd hJ hfr hdep
                      have sg : ac.tmps.getD 124 undef = .bool true := hdep 20 _ 124 (by decide) rfl rfl
                      have s129 : ac.tmps.getD 129 undef = .int .i64 qz := hdep 25 _ 129 (by decide) rfl rfl
                      have s130 : ac.tmps.getD 130 undef = .int .i64 255 := hdep 26 _ 130 (by decide) rfl rfl
                      have s129' := slot' s129
                      have s130' := slot' s130
                      clear hfr hdep
                      refine if_wanted (wanted_yes rfl rfl rfl sg) (fun Q => op_any (fun K hK => ?_))
                      go_simp
                      exact hK _ _ rfl hJ (Below.refl _ _)
                    · intro ac wd hJ hfr hdep
                      have sg : ac.tmps.getD 113 undef = .bool false := hdep 9 _ 113 (by decide) rfl rfl
                      have s124 : ac.tmps.getD 124 undef = .bool true := hdep 20 _ 124 (by decide) rfl rfl
                      have s131 : ac.tmps.getD 131 undef = .bool (decide (qz ≤ 255)) := hdep 27 _ 131 (by decide) rfl rfl
                      have s124' := slot' s124
                      have s131' := slot' s131
                      clear hfr hdep
                      refine if_wanted (wanted_yes rfl rfl rfl sg) (fun Q => op_any (fun K hK => ?_))
                      go_simp
                      exact hK _ _ rfl hJ (Below.refl _ _)
                    · intro ac wd hJ hfr hdep
                      have sg : ac.tmps.getD 107 undef = .bool true := hdep 3 _ 107 (by decide) rfl rfl
                      have s113 : ac.tmps.getD 113 undef = .bool false := hdep 9 _ 113 (by decide) rfl rfl
                      have s132 : ac.tmps.getD 132 undef = .bool (decide (qz ≤ 255)) := hdep 28 _ 132 (by decide) rfl rfl
                      have s113' := slot' s113
                      have s132' := slot' s132
                      clear hfr hdep
                      refine if_wanted (wanted_yes rfl rfl rfl sg) (fun Q => op_any (fun K hK => ?_))
                      go_simp
                      exact hK _ _ rfl hJ (Below.refl _ _)
                    · intro ac wd hJ hfr hdep
                      have s107 : ac.tmps.getD 107 undef = .bool true := hdep 3 _ 107 (by decide) rfl rfl
                      have s133 : ac.tmps.getD 133 undef = .bool (decide (qz ≤ 255)) := hdep 29 _ 133 (by decide) rfl rfl
                      have s107' := slot' s107
                      have s133' := slot' s133
                      clear hfr hdep
                      refine if_wanted rfl (fun Q => op_any (fun K hK => ?_))
                      go_simp
                      exact hK _ _ rfl hJ (Below.refl _ _)
                    intro f w3 hJ3 hR
                    have e0 : f 0 = .pointer (some ⟨H0, 2, none⟩) := hR 0 (by decide)
                    have e1 : f 1 = .int .i64 rz := hR 1 (by decide)
                    have e2 : f 2 = .bool true := hR 2 (by decide)
                    have e3 : f 3 = .bool true := hR 3 (by decide)
                    have e4 : f 4 = .int .i64 12 := hR 4 (by decide)
                    have e5 : f 5 = .int .i64 xr := hR 5 (by decide)
                    have e6 : f 6 = .pointer (some ⟨P0, 0, none⟩) := hR 6 (by decide)
                    have e7 : f 7 = .int .i64 rate := hR 7 (by decide)
                    have e8 : f 8 = .bool false := hR 8 (by decide)
                    have e9 : f 9 = .bool false := hR 9 (by decide)
                    have e10 : f 10 = .int .i64 12 := hR 10 (by decide)
                    have e11 : f 11 = .bool true := hR 11 (by decide)
                    have e12 : f 12 = .bool true := hR 12 (by decide)
                    have e13 : f 13 = .pointer (some ⟨P0, 0, none⟩) := hR 13 (by decide)
                    have e14 : f 14 = .int .i64 rate := hR 14 (by decide)
                    have e15 : f 15 = .int .i64 12 := hR 15 (by decide)
                    have e16 : f 16 = .int .i64 1000 := hR 16 (by decide)
                    have e17 : f 17 = .int .i64 mz := hR 17 (by decide)
                    have e18 : f 18 = .bool true := hR 18 (by decide)
                    have e19 : f 19 = .bool true := hR 19 (by decide)
                    have e20 : f 20 = .bool true := hR 20 (by decide)
                    have e21 : f 21 = .pointer (some ⟨P0, 0, none⟩) := hR 21 (by decide)
                    have e22 : f 22 = .int .i64 rate := hR 22 (by decide)
                    have e23 : f 23 = .int .i64 12 := hR 23 (by decide)
                    have e24 : f 24 = .int .i64 1000 := hR 24 (by decide)
                    have e25 : f 25 = .int .i64 qz := hR 25 (by decide)
                    have e26 : f 26 = .int .i64 255 := hR 26 (by decide)
                    have e27 : f 27 = .bool (decide (qz ≤ 255)) := hR 27 (by decide)
                    have e28 : f 28 = .bool (decide (qz ≤ 255)) := hR 28 (by decide)
                    have e29 : f 29 = .bool (decide (qz ≤ 255)) := hR 29 (by decide)
                    have e30 : f 30 = .bool (decide (qz ≤ 255)) := hR 30 (by decide)
                    clear hR
                    simp only [finA, Act.put, List.setIfInBounds_toArray, List.set_cons_succ, List.set_cons_zero, Nat.reduceAdd, e0, e1, e2, e3, e4, e5, e6, e7, e8, e9, e10, e11, e12, e13, e14, e15, e16, e17, e18, e19, e20, e21, e22, e23, e24, e25, e26, e27, e28, e29, e30]
                    clear e0 e1 e2 e3 e4 e5 e6 e7 e8 e9 e10 e11 e12 e13 e14 e15 e16 e17 e18 e19 e20 e21 e22 e23 e24 e25 e26 e27 e28 e29 e30
                    by_cases q : qz ≤ 255
                    · have hz : rcR rate (k + 1) = 12 := by rw [Hcn2.out, if_pos q]
                      clear Hcn2
                      have HM3 := Lib.hid (HM.out.below hJ3)
                      have f2 := HM3.out.h.c 2 (.int .i64 rz) rfl
                      have z2 := HM3.out.fz 2
                      have HM4 := Lib.hid (HM3.out.set 2 (.int .i64 12) ⟨V, BF, 12, m, 0, n, b, rr0, 0⟩ rfl)
                      have f7 := HM4.out.h.c 7 (.int .i64 rr0) rfl
                      have z7 := HM4.out.fz 7
                      have p0 := HM4.out.p0
                      have HM5 := Lib.hid (HM4.out.set 7 (.int .i64 rate) ⟨V, BF, 12, m, 0, n, b, rate, 0⟩ rfl)
                      clear HM hJ3 HRt Hrr0
                      go_wp2_with fail
                      go_roundw
                      case rel => exact ⟨k + 1, by omega, .inl hr0, by first | (rw [← Hnx.out]; done) | (rw [← Hnx.out]; rfl), by rw [hz, if_neg (by omega)]; exact HM5⟩
                      case measure => have := Hc.out; simp [intOf] <;> omega
                    · have hz : rcR rate (k + 1) = rz := by rw [Hcn2.out, if_neg q]
                      clear Hcn2
                      have HM3 := Lib.hid (HM.out.below hJ3)
                      clear HM hJ3 HRt
                      go_wp2_with fail
                      go_roundw
                      case rel => exact ⟨k + 1, by omega, .inl hr0, by first | (rw [← Hnx.out]; done) | (rw [← Hnx.out]; rfl), by rw [hz, Hrr0.out]; exact HM3⟩
                      case measure => have := Hc.out; simp [intOf] <;> omega
                  · rw [show topR 13 = 65535 from rfl]
                    have eu : unU 13 = 1 := rfl
                    rw [eu] at HU0
                    have HU := HU0
                    have hx13 : hitR rate 13 ↔ (xr = rate ∨ ((12 : Int) ≤ 13 ∧ rate % 1 = 0 ∧ rate / 1 ≤ 65535)) := Hxr.out
                    have hm1 : rate.tmod 1 = 0 := Int.tmod_one _
                    have hq1 : rate.tdiv 1 = rate := Int.tdiv_one _
                    have hwq : IntKind.i64.wrap rate = rate := by rw [IntKind.wrap_i64]; have := Hr63.out; omega
                    have Hcn2 : Hid (rcR rate (k + 1) = if rate ≤ 65535 then 13 else rz) := by
                      show _ = _
                      rw [Hcn.out]
                      by_cases q : rate ≤ 65535
                      · rw [if_pos q, if_pos ⟨z0, hx13.2 (.inr (by omega))⟩]
                      · rw [if_neg q, if_neg (fun h => by rcases hx13.1 h.2 with h | h; exact x0 h; omega)]
                    clear Hcn Hxr hx13 HU0 eu z0 x0
                    refine wp_region_specs [
                      Spec.val (.pointer (some ⟨H0, 2, none⟩)),
                      Spec.val (.int .i64 rz),
                      Spec.val (.bool true),
                      Spec.val (.bool true),
                      Spec.val (.int .i64 13),
                      Spec.val (.int .i64 xr),
                      Spec.val (.pointer (some ⟨P0, 0, none⟩)),
                      Spec.val (.int .i64 rate),
                      Spec.val (.bool false),
                      Spec.val (.bool false),
                      Spec.val (.int .i64 13),
                      Spec.val (.bool true),
                      Spec.val (.bool true),
                      Spec.val (.pointer (some ⟨P0, 0, none⟩)),
                      Spec.val (.int .i64 rate),
                      Spec.val (.int .i64 13),
                      Spec.val (.int .i64 1),
                      Spec.val (.int .i64 0),
                      Spec.val (.bool true),
                      Spec.val (.bool true),
                      Spec.val (.bool true),
                      Spec.val (.pointer (some ⟨P0, 0, none⟩)),
                      Spec.val (.int .i64 rate),
                      Spec.val (.int .i64 13),
                      Spec.val (.int .i64 1),
                      Spec.val (.int .i64 rate),
                      Spec.val (.int .i64 65535),
                      Spec.val (.bool (decide (rate ≤ 65535))),
                      Spec.val (.bool (decide (rate ≤ 65535))),
                      Spec.val (.bool (decide (rate ≤ 65535))),
                      Spec.val (.bool (decide (rate ≤ 65535)))] w1 (by kernel_rfl) (by repeat (first | exact Below.refl _ _ | assumption | refine below_drewN ?_ _ | refine Below.drew ?_ | refine Below.alloc ?_ (Nat.le_refl _) _ | refine bal ?_ _ | refine bnext ?_ (by assumption))) (n := 155) rfl (by decide +kernel) ⟨?_, ?_, ?_, ?_, ?_, ?_, ?_, ?_, ?_, ?_, ?_, ?_, ?_, ?_, ?_, ?_, ?_, ?_, ?_, ?_, ?_, ?_, ?_, ?_, ?_, ?_, ?_, ?_, ?_, ?_, ?_, trivial⟩ ?_
                    · intro ac wd hJ hfr hdep
                      have s13 : ac.tmps.getD 13 undef = .pointer (some ⟨H0, 0, none⟩) := (hfr 13 (by decide)).trans rfl
                      have s13' := slot' s13
                      clear hfr hdep
                      refine if_wanted rfl (fun Q => op_any (fun K hK => ?_))
                      go_simp
                      exact hK _ _ rfl hJ (Below.refl _ _)
                    · intro ac wd hJ hfr hdep
                      have s104 : ac.tmps.getD 104 undef = .pointer (some ⟨H0, 2, none⟩) := hdep 0 _ 104 (by decide) rfl rfl
                      have s104' := slot' s104
                      clear hfr hdep
                      refine if_wanted rfl (fun Q => op_any (fun K hK => ?_))
                      have hq := (HM.out.below hJ).h.c 2 (.int .i64 rz) rfl
                      go_simp
                      exact hK _ _ rfl hJ (Below.refl _ _)
                    · intro ac wd hJ hfr hdep
                      have s105 : ac.tmps.getD 105 undef = .int .i64 rz := hdep 1 _ 105 (by decide) rfl rfl
                      have s105' := slot' s105
                      clear hfr hdep
                      refine if_wanted rfl (fun Q => op_any (fun K hK => ?_))
                      go_simp
                      exact hK _ _ rfl hJ (Below.refl _ _)
                    · intro ac wd hJ hfr hdep
                      have s106 : ac.tmps.getD 106 undef = .bool true := hdep 2 _ 106 (by decide) rfl rfl
                      have s106' := slot' s106
                      clear hfr hdep
                      refine if_wanted rfl (fun Q => op_any (fun K hK => ?_))
                      go_simp
                      exact hK _ _ rfl hJ (Below.refl _ _)
                    · intro ac wd hJ hfr hdep
                      have sg : ac.tmps.getD 107 undef = .bool true := hdep 3 _ 107 (by decide) rfl rfl
                      have s15 : ac.tmps.getD 15 undef = .int .i64 13 := (hfr 15 (by decide)).trans rfl
                      have s15' := slot' s15
                      clear hfr hdep
                      refine if_wanted (wanted_yes rfl rfl rfl sg) (fun Q => op_any (fun K hK => ?_))
                      go_simp
                      exact hK _ _ rfl hJ (Below.refl _ _)
                    · intro ac wd hJ hfr hdep
                      have sg : ac.tmps.getD 107 undef = .bool true := hdep 3 _ 107 (by decide) rfl rfl
                      have s108 : ac.tmps.getD 108 undef = .int .i64 13 := hdep 4 _ 108 (by decide) rfl rfl
                      have s108' := slot' s108
                      clear hfr hdep
                      refine if_wanted (wanted_yes rfl rfl rfl sg) (fun Q => op_any (fun K hK => ?_))
                      go_simp
                      refine (HRt.out _).mono ?_
                      rintro e wz ⟨rfl, hbz⟩
                      exact hK _ _ rfl (bnext hJ hbz) hbz
                    · intro ac wd hJ hfr hdep
                      have sg : ac.tmps.getD 107 undef = .bool true := hdep 3 _ 107 (by decide) rfl rfl
                      have s9 : ac.tmps.getD 9 undef = .pointer (some ⟨P0, 0, none⟩) := (hfr 9 (by decide)).trans rfl
                      have s9' := slot' s9
                      clear hfr hdep
                      refine if_wanted (wanted_yes rfl rfl rfl sg) (fun Q => op_any (fun K hK => ?_))
                      go_simp
                      exact hK _ _ rfl hJ (Below.refl _ _)
                    · intro ac wd hJ hfr hdep
                      have sg : ac.tmps.getD 107 undef = .bool true := hdep 3 _ 107 (by decide) rfl rfl
                      have s110 : ac.tmps.getD 110 undef = .pointer (some ⟨P0, 0, none⟩) := hdep 6 _ 110 (by decide) rfl rfl
                      have s110' := slot' s110
                      clear hfr hdep
                      refine if_wanted (wanted_yes rfl rfl rfl sg) (fun Q => op_any (fun K hK => ?_))
                      have hq := (HM.out.below hJ).p0
                      go_simp
                      exact hK _ _ rfl hJ (Below.refl _ _)
                    · intro ac wd hJ hfr hdep
                      have sg : ac.tmps.getD 107 undef = .bool true := hdep 3 _ 107 (by decide) rfl rfl
                      have s109 : ac.tmps.getD 109 undef = .int .i64 xr := hdep 5 _ 109 (by decide) rfl rfl
                      have s111 : ac.tmps.getD 111 undef = .int .i64 rate := hdep 7 _ 111 (by decide) rfl rfl
                      have s109' := slot' s109
                      have s111' := slot' s111
                      clear hfr hdep
                      refine if_wanted (wanted_yes rfl rfl rfl sg) (fun Q => op_any (fun K hK => ?_))
                      go_simp
                      exact hK _ _ rfl hJ (Below.refl _ _)
                    · intro ac wd hJ hfr hdep
                      have sg : ac.tmps.getD 107 undef = .bool true := hdep 3 _ 107 (by decide) rfl rfl
                      have s112 : ac.tmps.getD 112 undef = .bool false := hdep 8 _ 112 (by decide) rfl rfl
                      have s112' := slot' s112
                      clear hfr hdep
                      refine if_wanted (wanted_yes rfl rfl rfl sg) (fun Q => op_any (fun K hK => ?_))
                      go_simp
                      exact hK _ _ rfl hJ (Below.refl _ _)
                    · intro ac wd hJ hfr hdep
                      have sg : ac.tmps.getD 113 undef = .bool false := hdep 9 _ 113 (by decide) rfl rfl
                      have s15 : ac.tmps.getD 15 undef = .int .i64 13 := (hfr 15 (by decide)).trans rfl
                      have s15' := slot' s15
                      clear hfr hdep
                      refine if_wanted (wanted_yes rfl rfl rfl sg) (fun Q => op_any (fun K hK => ?_))
                      go_simp
                      exact hK _ _ rfl hJ (Below.refl _ _)
                    · intro ac wd hJ hfr hdep
                      have sg : ac.tmps.getD 113 undef = .bool false := hdep 9 _ 113 (by decide) rfl rfl
                      have s114 : ac.tmps.getD 114 undef = .int .i64 13 := hdep 10 _ 114 (by decide) rfl rfl
                      have s114' := slot' s114
                      clear hfr hdep
                      refine if_wanted (wanted_yes rfl rfl rfl sg) (fun Q => op_any (fun K hK => ?_))
                      go_simp
                      exact hK _ _ rfl hJ (Below.refl _ _)
                    · intro ac wd hJ hfr hdep
                      have sg : ac.tmps.getD 113 undef = .bool false := hdep 9 _ 113 (by decide) rfl rfl
                      have s115 : ac.tmps.getD 115 undef = .bool true := hdep 11 _ 115 (by decide) rfl rfl
                      have s115' := slot' s115
                      clear hfr hdep
                      refine if_wanted (wanted_yes rfl rfl rfl sg) (fun Q => op_any (fun K hK => ?_))
                      go_simp
                      exact hK _ _ rfl hJ (Below.refl _ _)
                    · intro ac wd hJ hfr hdep
                      have sg : ac.tmps.getD 116 undef = .bool true := hdep 12 _ 116 (by decide) rfl rfl
                      have s9 : ac.tmps.getD 9 undef = .pointer (some ⟨P0, 0, none⟩) := (hfr 9 (by decide)).trans rfl
                      have s9' := slot' s9
                      clear hfr hdep
                      refine if_wanted (wanted_yes rfl rfl rfl sg) (fun Q => op_any (fun K hK => ?_))
                      go_simp
                      exact hK _ _ rfl hJ (Below.refl _ _)
                    · intro ac wd hJ hfr hdep
                      have sg : ac.tmps.getD 116 undef = .bool true := hdep 12 _ 116 (by decide) rfl rfl
                      have s117 : ac.tmps.getD 117 undef = .pointer (some ⟨P0, 0, none⟩) := hdep 13 _ 117 (by decide) rfl rfl
                      have s117' := slot' s117
                      clear hfr hdep
                      refine if_wanted (wanted_yes rfl rfl rfl sg) (fun Q => op_any (fun K hK => ?_))
                      have hq := (HM.out.below hJ).p0
                      go_simp
                      exact hK _ _ rfl hJ (Below.refl _ _)
                    · intro ac wd hJ hfr hdep
                      have sg : ac.tmps.getD 116 undef = .bool true := hdep 12 _ 116 (by decide) rfl rfl
                      have s15 : ac.tmps.getD 15 undef = .int .i64 13 := (hfr 15 (by decide)).trans rfl
                      have s15' := slot' s15
                      clear hfr hdep
                      refine if_wanted (wanted_yes rfl rfl rfl sg) (fun Q => op_any (fun K hK => ?_))
                      go_simp
                      exact hK _ _ rfl hJ (Below.refl _ _)
                    · intro ac wd hJ hfr hdep
                      have sg : ac.tmps.getD 116 undef = .bool true := hdep 12 _ 116 (by decide) rfl rfl
                      have s119 : ac.tmps.getD 119 undef = .int .i64 13 := hdep 15 _ 119 (by decide) rfl rfl
                      have s119' := slot' s119
                      clear hfr hdep
                      refine if_wanted (wanted_yes rfl rfl rfl sg) (fun Q => op_any (fun K hK => ?_))
                      go_simp
                      refine (HU.out _).mono ?_
                      rintro e wz ⟨rfl, rfl⟩
                      exact hK _ _ rfl hJ (Below.refl _ _)
                    · intro ac wd hJ hfr hdep
                      have sg : ac.tmps.getD 116 undef = .bool true := hdep 12 _ 116 (by decide) rfl rfl
                      have s118 : ac.tmps.getD 118 undef = .int .i64 rate := hdep 14 _ 118 (by decide) rfl rfl
                      have s120 : ac.tmps.getD 120 undef = .int .i64 1 := hdep 16 _ 120 (by decide) rfl rfl
                      have s118' := slot' s118
                      have s120' := slot' s120
                      clear hfr hdep
                      refine if_wanted (wanted_yes rfl rfl rfl sg) (fun Q => op_any (fun K hK => ?_))
                      go_simp
                      exact hK _ _ rfl hJ (Below.refl _ _)
                    · intro ac wd hJ hfr hdep
                      have sg : ac.tmps.getD 116 undef = .bool true := hdep 12 _ 116 (by decide) rfl rfl
                      have s121 : ac.tmps.getD 121 undef = .int .i64 0 := hdep 17 _ 121 (by decide) rfl rfl
                      have s121' := slot' s121
                      clear hfr hdep
                      refine if_wanted (wanted_yes rfl rfl rfl sg) (fun Q => op_any (fun K hK => ?_))
                      go_simp
                      exact hK _ _ rfl hJ (Below.refl _ _)
                    · intro ac wd hJ hfr hdep
                      have sg : ac.tmps.getD 113 undef = .bool false := hdep 9 _ 113 (by decide) rfl rfl
                      have s116 : ac.tmps.getD 116 undef = .bool true := hdep 12 _ 116 (by decide) rfl rfl
                      have s122 : ac.tmps.getD 122 undef = .bool true := hdep 18 _ 122 (by decide) rfl rfl
                      have s116' := slot' s116
                      have s122' := slot' s122
                      clear hfr hdep
                      refine if_wanted (wanted_yes rfl rfl rfl sg) (fun Q => op_any (fun K hK => ?_))
                      go_simp
                      exact hK _ _ rfl hJ (Below.refl _ _)
                    · intro ac wd hJ hfr hdep
                      have sg : ac.tmps.getD 113 undef = .bool false := hdep 9 _ 113 (by decide) rfl rfl
                      have s123 : ac.tmps.getD 123 undef = .bool true := hdep 19 _ 123 (by decide) rfl rfl
                      have s123' := slot' s123
                      clear hfr hdep
                      refine if_wanted (wanted_yes rfl rfl rfl sg) (fun Q => op_any (fun K hK => ?_))
                      go_simp
                      exact hK _ _ rfl hJ (Below.refl _ _)
                    · intro ac wd hJ hfr hdep
                      have sg : ac.tmps.getD 124 undef = .bool true := hdep 20 _ 124 (by decide) rfl rfl
                      have s9 : ac.tmps.getD 9 undef = .pointer (some ⟨P0, 0, none⟩) := (hfr 9 (by decide)).trans rfl
                      have s9' := slot' s9
                      clear hfr hdep
                      refine if_wanted (wanted_yes rfl rfl rfl sg) (fun Q => op_any (fun K hK => ?_))
                      go_simp
                      exact hK _ _ rfl hJ (Below.refl _ _)
                    · intro ac wd hJ hfr hdep
                      have sg : ac.tmps.getD 124 undef = .bool true := hdep 20 _ 124 (by decide) rfl rfl
                      have s125 : ac.tmps.getD 125 undef = .pointer (some ⟨P0, 0, none⟩) := hdep 21 _ 125 (by decide) rfl rfl
                      have s125' := slot' s125
                      clear hfr hdep
                      refine if_wanted (wanted_yes rfl rfl rfl sg) (fun Q => op_any (fun K hK => ?_))
                      have hq := (HM.out.below hJ).p0
                      go_simp
                      exact hK _ _ rfl hJ (Below.refl _ _)
                    · intro ac wd hJ hfr hdep
                      have sg : ac.tmps.getD 124 undef = .bool true := hdep 20 _ 124 (by decide) rfl rfl
                      have s15 : ac.tmps.getD 15 undef = .int .i64 13 := (hfr 15 (by decide)).trans rfl
                      have s15' := slot' s15
                      clear hfr hdep
                      refine if_wanted (wanted_yes rfl rfl rfl sg) (fun Q => op_any (fun K hK => ?_))
                      go_simp
                      exact hK _ _ rfl hJ (Below.refl _ _)
                    · intro ac wd hJ hfr hdep
                      have sg : ac.tmps.getD 124 undef = .bool true := hdep 20 _ 124 (by decide) rfl rfl
                      have s127 : ac.tmps.getD 127 undef = .int .i64 13 := hdep 23 _ 127 (by decide) rfl rfl
                      have s127' := slot' s127
                      clear hfr hdep
                      refine if_wanted (wanted_yes rfl rfl rfl sg) (fun Q => op_any (fun K hK => ?_))
                      go_simp
                      refine (HU.out _).mono ?_
                      rintro e wz ⟨rfl, rfl⟩
                      exact hK _ _ rfl hJ (Below.refl _ _)
                    · intro ac wd hJ hfr hdep
                      have sg : ac.tmps.getD 124 undef = .bool true := hdep 20 _ 124 (by decide) rfl rfl
                      have s126 : ac.tmps.getD 126 undef = .int .i64 rate := hdep 22 _ 126 (by decide) rfl rfl
                      have s128 : ac.tmps.getD 128 undef = .int .i64 1 := hdep 24 _ 128 (by decide) rfl rfl
                      have s126' := slot' s126
                      have s128' := slot' s128
                      clear hfr hdep
                      refine if_wanted (wanted_yes rfl rfl rfl sg) (fun Q => op_any (fun K hK => ?_))
                      go_simp
                      exact hK _ _ rfl hJ (Below.refl _ _)
                    · intro ac wd hJ hfr hdep
                      have sg : ac.tmps.getD 124 undef = .bool true := hdep 20 _ 124 (by decide) rfl rfl
                      have s16 : ac.tmps.getD 16 undef = .int .i64 65535 := (hfr 16 (by decide)).trans rfl
                      have s16' := slot' s16
                      clear hfr hdep
                      refine if_wanted (wanted_yes rfl rfl rfl sg) (fun Q => op_any (fun K hK => ?_))
                      go_simp
                      exact hK _ _ rfl hJ (Below.refl _ _)
                    · intro ac wd hJ hfr hdep
                      have sg : ac.tmps.getD 124 undef = .bool true := hdep 20 _ 124 (by decide) rfl rfl
                      have s129 : ac.tmps.getD 129 undef = .int .i64 rate := hdep 25 _ 129 (by decide) rfl rfl
                      have s130 : ac.tmps.getD 130 undef = .int .i64 65535 := hdep 26 _ 130 (by decide) rfl rfl
                      have s129' := slot' s129
                      have s130' := slot' s130
                      clear hfr hdep
                      refine if_wanted (wanted_yes rfl rfl rfl sg) (fun Q => op_any (fun K hK => ?_))
                      go_simp
                      exact hK _ _ rfl hJ (Below.refl _ _)
                    · intro ac wd hJ hfr hdep
                      have sg : ac.tmps.getD 113 undef = .bool false := hdep 9 _ 113 (by decide) rfl rfl
                      have s124 : ac.tmps.getD 124 undef = .bool true := hdep 20 _ 124 (by decide) rfl rfl
                      have s131 : ac.tmps.getD 131 undef = .bool (decide (rate ≤ 65535)) := hdep 27 _ 131 (by decide) rfl rfl
                      have s124' := slot' s124
                      have s131' := slot' s131
                      clear hfr hdep
                      refine if_wanted (wanted_yes rfl rfl rfl sg) (fun Q => op_any (fun K hK => ?_))
                      go_simp
                      exact hK _ _ rfl hJ (Below.refl _ _)
                    · intro ac wd hJ hfr hdep
                      have sg : ac.tmps.getD 107 undef = .bool true := hdep 3 _ 107 (by decide) rfl rfl
                      have s113 : ac.tmps.getD 113 undef = .bool false := hdep 9 _ 113 (by decide) rfl rfl
                      have s132 : ac.tmps.getD 132 undef = .bool (decide (rate ≤ 65535)) := hdep 28 _ 132 (by decide) rfl rfl
                      have s113' := slot' s113
                      have s132' := slot' s132
                      clear hfr hdep
                      refine if_wanted (wanted_yes rfl rfl rfl sg) (fun Q => op_any (fun K hK => ?_))
                      go_simp
                      exact hK _ _ rfl hJ (Below.refl _ _)
                    · intro ac wd hJ hfr hdep
                      have s107 : ac.tmps.getD 107 undef = .bool true := hdep 3 _ 107 (by decide) rfl rfl
                      have s133 : ac.tmps.getD 133 undef = .bool (decide (rate ≤ 65535)) := hdep 29 _ 133 (by decide) rfl rfl
                      have s107' := slot' s107
                      have s133' := slot' s133
                      clear hfr hdep
                      refine if_wanted rfl (fun Q => op_any (fun K hK => ?_))
                      go_simp
                      exact hK _ _ rfl hJ (Below.refl _ _)
                    intro f w3 hJ3 hR
                    have e0 : f 0 = .pointer (some ⟨H0, 2, none⟩) := hR 0 (by decide)
                    have e1 : f 1 = .int .i64 rz := hR 1 (by decide)
                    have e2 : f 2 = .bool true := hR 2 (by decide)
                    have e3 : f 3 = .bool true := hR 3 (by decide)
                    have e4 : f 4 = .int .i64 13 := hR 4 (by decide)
                    have e5 : f 5 = .int .i64 xr := hR 5 (by decide)
                    have e6 : f 6 = .pointer (some ⟨P0, 0, none⟩) := hR 6 (by decide)
                    have e7 : f 7 = .int .i64 rate := hR 7 (by decide)
                    have e8 : f 8 = .bool false := hR 8 (by decide)
                    have e9 : f 9 = .bool false := hR 9 (by decide)
                    have e10 : f 10 = .int .i64 13 := hR 10 (by decide)
                    have e11 : f 11 = .bool true := hR 11 (by decide)
                    have e12 : f 12 = .bool true := hR 12 (by decide)
                    have e13 : f 13 = .pointer (some ⟨P0, 0, none⟩) := hR 13 (by decide)
                    have e14 : f 14 = .int .i64 rate := hR 14 (by decide)
                    have e15 : f 15 = .int .i64 13 := hR 15 (by decide)
                    have e16 : f 16 = .int .i64 1 := hR 16 (by decide)
                    have e17 : f 17 = .int .i64 0 := hR 17 (by decide)
                    have e18 : f 18 = .bool true := hR 18 (by decide)
                    have e19 : f 19 = .bool true := hR 19 (by decide)
                    have e20 : f 20 = .bool true := hR 20 (by decide)
                    have e21 : f 21 = .pointer (some ⟨P0, 0, none⟩) := hR 21 (by decide)
                    have e22 : f 22 = .int .i64 rate := hR 22 (by decide)
                    have e23 : f 23 = .int .i64 13 := hR 23 (by decide)
                    have e24 : f 24 = .int .i64 1 := hR 24 (by decide)
                    have e25 : f 25 = .int .i64 rate := hR 25 (by decide)
                    have e26 : f 26 = .int .i64 65535 := hR 26 (by decide)
                    have e27 : f 27 = .bool (decide (rate ≤ 65535)) := hR 27 (by decide)
                    have e28 : f 28 = .bool (decide (rate ≤ 65535)) := hR 28 (by decide)
                    have e29 : f 29 = .bool (decide (rate ≤ 65535)) := hR 29 (by decide)
                    have e30 : f 30 = .bool (decide (rate ≤ 65535)) := hR 30 (by decide)
                    clear hR
                    simp only [finA, Act.put, List.setIfInBounds_toArray, List.set_cons_succ, List.set_cons_zero, Nat.reduceAdd, e0, e1, e2, e3, e4, e5, e6, e7, e8, e9, e10, e11, e12, e13, e14, e15, e16, e17, e18, e19, e20, e21, e22, e23, e24, e25, e26, e27, e28, e29, e30]
                    clear e0 e1 e2 e3 e4 e5 e6 e7 e8 e9 e10 e11 e12 e13 e14 e15 e16 e17 e18 e19 e20 e21 e22 e23 e24 e25 e26 e27 e28 e29 e30
                    by_cases q : rate ≤ 65535
                    · have hz : rcR rate (k + 1) = 13 := by rw [Hcn2.out, if_pos q]
                      clear Hcn2
                      have HM3 := Lib.hid (HM.out.below hJ3)
                      have f2 := HM3.out.h.c 2 (.int .i64 rz) rfl
                      have z2 := HM3.out.fz 2
                      have HM4 := Lib.hid (HM3.out.set 2 (.int .i64 13) ⟨V, BF, 13, m, 0, n, b, rr0, 0⟩ rfl)
                      have f7 := HM4.out.h.c 7 (.int .i64 rr0) rfl
                      have z7 := HM4.out.fz 7
                      have p0 := HM4.out.p0
                      have HM5 := Lib.hid (HM4.out.set 7 (.int .i64 rate) ⟨V, BF, 13, m, 0, n, b, rate, 0⟩ rfl)
                      clear HM hJ3 HRt Hrr0
                      go_wp2_with fail
                      go_roundw
                      case rel => exact ⟨k + 1, by omega, .inl hr0, by first | (rw [← Hnx.out]; done) | (rw [← Hnx.out]; rfl), by rw [hz, if_neg (by omega)]; exact HM5⟩
                      case measure => have := Hc.out; simp [intOf] <;> omega
                    · have hz : rcR rate (k + 1) = rz := by rw [Hcn2.out, if_neg q]
                      clear Hcn2
                      have HM3 := Lib.hid (HM.out.below hJ3)
                      clear HM hJ3 HRt
                      go_wp2_with fail
                      go_roundw
                      case rel => exact ⟨k + 1, by omega, .inl hr0, by first | (rw [← Hnx.out]; done) | (rw [← Hnx.out]; rfl), by rw [hz, Hrr0.out]; exact HM3⟩
                      case measure => have := Hc.out; simp [intOf] <;> omega
                  · rw [show topR 14 = 65535 from rfl]
                    have eu : unU 14 = 10 := rfl
                    rw [eu] at HU0
                    have HU := HU0
                    have hxc : hitR rate 14 ↔ (xr = rate ∨ ((12 : Int) ≤ 14 ∧ rate % 10 = 0 ∧ rate / 10 ≤ 65535)) := Hxr.out
                    obtain ⟨mz, hm2⟩ : ∃ mz, rate % 10 = mz := ⟨_, rfl⟩
                    obtain ⟨qz, hq2⟩ : ∃ qz, rate / 10 = qz := ⟨_, rfl⟩
                    have hm1 : rate.tmod 10 = mz := by rw [Int.tmod_eq_emod_of_nonneg (by omega)]; exact hm2
                    have hq1 : rate.tdiv 10 = qz := by rw [Int.tdiv_eq_ediv_of_nonneg (by omega)]; exact hq2
                    have hwq : IntKind.i64.wrap qz = qz := by rw [IntKind.wrap_i64]; have := Hr63.out; omega
                    rw [hm2, hq2] at hxc
                    clear Hxr HU0 eu
                    by_cases m0 : mz = 0
                    case neg =>
                      have m0' : (mz == 0) = false := by rw [beq_eq_false_iff_ne]; exact m0
                      have hz : rcR rate (k + 1) = rz := by rw [Hcn.out, if_neg (fun h => by rcases hxc.1 h.2 with h | h; exact x0 h; exact m0 h.2.1)]
                      clear Hcn hxc z0 x0 m0
                      refine wp_region_specs [
                        Spec.val (.pointer (some ⟨H0, 2, none⟩)),
                        Spec.val (.int .i64 rz),
                        Spec.val (.bool true),
                        Spec.val (.bool true),
                        Spec.val (.int .i64 14),
                        Spec.val (.int .i64 xr),
                        Spec.val (.pointer (some ⟨P0, 0, none⟩)),
                        Spec.val (.int .i64 rate),
                        Spec.val (.bool false),
                        Spec.val (.bool false),
                        Spec.val (.int .i64 14),
                        Spec.val (.bool true),
                        Spec.val (.bool true),
                        Spec.val (.pointer (some ⟨P0, 0, none⟩)),
                        Spec.val (.int .i64 rate),
                        Spec.val (.int .i64 14),
                        Spec.val (.int .i64 10),
                        Spec.val (.int .i64 mz),
                        Spec.val (.bool false),
                        Spec.val (.bool false),
                        Spec.val (.bool false),
                        Spec.val (undef),
                        Spec.val (undef),
                        Spec.val (undef),
                        Spec.val (undef),
                        Spec.val (undef),
                        Spec.val (undef),
                        Spec.val (undef),
                        Spec.val ((Value.bool false)),
                        Spec.val ((Value.bool false)),
                        Spec.val ((Value.bool false))] w1 (by kernel_rfl) (by repeat (first | exact Below.refl _ _ | assumption | refine below_drewN ?_ _ | refine Below.drew ?_ | refine Below.alloc ?_ (Nat.le_refl _) _ | refine bal ?_ _ | refine bnext ?_ (by assumption))) (n := 155) rfl (by decide +kernel) ⟨?_, ?_, ?_, ?_, ?_, ?_, ?_, ?_, ?_, ?_, ?_, ?_, ?_, ?_, ?_, ?_, ?_, ?_, ?_, ?_, ?_, ?_, ?_, ?_, ?_, ?_, ?_, ?_, ?_, ?_, ?_, trivial⟩ ?_
                      · intro ac wd hJ hfr hdep
                        have s13 : ac.tmps.getD 13 undef = .pointer (some ⟨H0, 0, none⟩) := (hfr 13 (by decide)).trans rfl
                        have s13' := slot' s13
                        clear hfr hdep
                        refine if_wanted rfl (fun Q => op_any (fun K hK => ?_))
                        go_simp
                        exact hK _ _ rfl hJ (Below.refl _ _)
                      · intro ac wd hJ hfr hdep
                        have s104 : ac.tmps.getD 104 undef = .pointer (some ⟨H0, 2, none⟩) := hdep 0 _ 104 (by decide) rfl rfl
                        have s104' := slot' s104
                        clear hfr hdep
                        refine if_wanted rfl (fun Q => op_any (fun K hK => ?_))
                        have hq := (HM.out.below hJ).h.c 2 (.int .i64 rz) rfl
                        go_simp
                        exact hK _ _ rfl hJ (Below.refl _ _)
                      · intro ac wd hJ hfr hdep
                        have s105 : ac.tmps.getD 105 undef = .int .i64 rz := hdep 1 _ 105 (by decide) rfl rfl
                        have s105' := slot' s105
                        clear hfr hdep
                        refine if_wanted rfl (fun Q => op_any (fun K hK => ?_))
                        go_simp
                        exact hK _ _ rfl hJ (Below.refl _ _)
                      · intro ac wd hJ hfr hdep
                        have s106 : ac.tmps.getD 106 undef = .bool true := hdep 2 _ 106 (by decide) rfl rfl
                        have s106' := slot' s106
                        clear hfr hdep
                        refine if_wanted rfl (fun Q => op_any (fun K hK => ?_))
                        go_simp
                        exact hK _ _ rfl hJ (Below.refl _ _)
                      · intro ac wd hJ hfr hdep
                        have sg : ac.tmps.getD 107 undef = .bool true := hdep 3 _ 107 (by decide) rfl rfl
                        have s15 : ac.tmps.getD 15 undef = .int .i64 14 := (hfr 15 (by decide)).trans rfl
                        have s15' := slot' s15
                        clear hfr hdep
                        refine if_wanted (wanted_yes rfl rfl rfl sg) (fun Q => op_any (fun K hK => ?_))
                        go_simp
                        exact hK _ _ rfl hJ (Below.refl _ _)
                      · intro ac wd hJ hfr hdep
                        have sg : ac.tmps.getD 107 undef = .bool true := hdep 3 _ 107 (by decide) rfl rfl
                        have s108 : ac.tmps.getD 108 undef = .int .i64 14 := hdep 4 _ 108 (by decide) rfl rfl
                        have s108' := slot' s108
                        clear hfr hdep
                        refine if_wanted (wanted_yes rfl rfl rfl sg) (fun Q => op_any (fun K hK => ?_))
                        go_simp
                        refine (HRt.out _).mono ?_
                        rintro e wz ⟨rfl, hbz⟩
                        exact hK _ _ rfl (bnext hJ hbz) hbz
                      · intro ac wd hJ hfr hdep
                        have sg : ac.tmps.getD 107 undef = .bool true := hdep 3 _ 107 (by decide) rfl rfl
                        have s9 : ac.tmps.getD 9 undef = .pointer (some ⟨P0, 0, none⟩) := (hfr 9 (by decide)).trans rfl
                        have s9' := slot' s9
                        clear hfr hdep
                        refine if_wanted (wanted_yes rfl rfl rfl sg) (fun Q => op_any (fun K hK => ?_))
                        go_simp
                        exact hK _ _ rfl hJ (Below.refl _ _)
                      · intro ac wd hJ hfr hdep
                        have sg : ac.tmps.getD 107 undef = .bool true := hdep 3 _ 107 (by decide) rfl rfl
                        have s110 : ac.tmps.getD 110 undef = .pointer (some ⟨P0, 0, none⟩) := hdep 6 _ 110 (by decide) rfl rfl
                        have s110' := slot' s110
                        clear hfr hdep
                        refine if_wanted (wanted_yes rfl rfl rfl sg) (fun Q => op_any (fun K hK => ?_))
                        have hq := (HM.out.below hJ).p0
                        go_simp
                        exact hK _ _ rfl hJ (Below.refl _ _)
                      · intro ac wd hJ hfr hdep
                        have sg : ac.tmps.getD 107 undef = .bool true := hdep 3 _ 107 (by decide) rfl rfl
                        have s109 : ac.tmps.getD 109 undef = .int .i64 xr := hdep 5 _ 109 (by decide) rfl rfl
                        have s111 : ac.tmps.getD 111 undef = .int .i64 rate := hdep 7 _ 111 (by decide) rfl rfl
                        have s109' := slot' s109
                        have s111' := slot' s111
                        clear hfr hdep
                        refine if_wanted (wanted_yes rfl rfl rfl sg) (fun Q => op_any (fun K hK => ?_))
                        go_simp
                        exact hK _ _ rfl hJ (Below.refl _ _)
                      · intro ac wd hJ hfr hdep
                        have sg : ac.tmps.getD 107 undef = .bool true := hdep 3 _ 107 (by decide) rfl rfl
                        have s112 : ac.tmps.getD 112 undef = .bool false := hdep 8 _ 112 (by decide) rfl rfl
                        have s112' := slot' s112
                        clear hfr hdep
                        refine if_wanted (wanted_yes rfl rfl rfl sg) (fun Q => op_any (fun K hK => ?_))
                        go_simp
                        exact hK _ _ rfl hJ (Below.refl _ _)
                      · intro ac wd hJ hfr hdep
                        have sg : ac.tmps.getD 113 undef = .bool false := hdep 9 _ 113 (by decide) rfl rfl
                        have s15 : ac.tmps.getD 15 undef = .int .i64 14 := (hfr 15 (by decide)).trans rfl
                        have s15' := slot' s15
                        clear hfr hdep
                        refine if_wanted (wanted_yes rfl rfl rfl sg) (fun Q => op_any (fun K hK => ?_))
                        go_simp
                        exact hK _ _ rfl hJ (Below.refl _ _)
                      · intro ac wd hJ hfr hdep
                        have sg : ac.tmps.getD 113 undef = .bool false := hdep 9 _ 113 (by decide) rfl rfl
                        have s114 : ac.tmps.getD 114 undef = .int .i64 14 := hdep 10 _ 114 (by decide) rfl rfl
                        have s114' := slot' s114
                        clear hfr hdep
                        refine if_wanted (wanted_yes rfl rfl rfl sg) (fun Q => op_any (fun K hK => ?_))
                        go_simp
                        exact hK _ _ rfl hJ (Below.refl _ _)
                      · intro ac wd hJ hfr hdep
                        have sg : ac.tmps.getD 113 undef = .bool false := hdep 9 _ 113 (by decide) rfl rfl
                        have s115 : ac.tmps.getD 115 undef = .bool true := hdep 11 _ 115 (by decide) rfl rfl
                        have s115' := slot' s115
                        clear hfr hdep
                        refine if_wanted (wanted_yes rfl rfl rfl sg) (fun Q => op_any (fun K hK => ?_))
                        go_simp
                        exact hK _ _ rfl hJ (Below.refl _ _)
                      · intro ac wd hJ hfr hdep
                        have sg : ac.tmps.getD 116 undef = .bool true := hdep 12 _ 116 (by decide) rfl rfl
                        have s9 : ac.tmps.getD 9 undef = .pointer (some ⟨P0, 0, none⟩) := (hfr 9 (by decide)).trans rfl
                        have s9' := slot' s9
                        clear hfr hdep
                        refine if_wanted (wanted_yes rfl rfl rfl sg) (fun Q => op_any (fun K hK => ?_))
                        go_simp
                        exact hK _ _ rfl hJ (Below.refl _ _)
                      · intro ac wd hJ hfr hdep
                        have sg : ac.tmps.getD 116 undef = .bool true := hdep 12 _ 116 (by decide) rfl rfl
                        have s117 : ac.tmps.getD 117 undef = .pointer (some ⟨P0, 0, none⟩) := hdep 13 _ 117 (by decide) rfl rfl
                        have s117' := slot' s117
                        clear hfr hdep
                        refine if_wanted (wanted_yes rfl rfl rfl sg) (fun Q => op_any (fun K hK => ?_))
                        have hq := (HM.out.below hJ).p0
                        go_simp
                        exact hK _ _ rfl hJ (Below.refl _ _)
                      · intro ac wd hJ hfr hdep
                        have sg : ac.tmps.getD 116 undef = .bool true := hdep 12 _ 116 (by decide) rfl rfl
                        have s15 : ac.tmps.getD 15 undef = .int .i64 14 := (hfr 15 (by decide)).trans rfl
                        have s15' := slot' s15
                        clear hfr hdep
                        refine if_wanted (wanted_yes rfl rfl rfl sg) (fun Q => op_any (fun K hK => ?_))
                        go_simp
                        exact hK _ _ rfl hJ (Below.refl _ _)
                      · intro ac wd hJ hfr hdep
                        have sg : ac.tmps.getD 116 undef = .bool true := hdep 12 _ 116 (by decide) rfl rfl
                        have s119 : ac.tmps.getD 119 undef = .int .i64 14 := hdep 15 _ 119 (by decide) rfl rfl
                        have s119' := slot' s119
                        clear hfr hdep
                        refine if_wanted (wanted_yes rfl rfl rfl sg) (fun Q => op_any (fun K hK => ?_))
                        go_simp
                        refine (HU.out _).mono ?_
                        rintro e wz ⟨rfl, rfl⟩
                        exact hK _ _ rfl hJ (Below.refl _ _)
                      · intro ac wd hJ hfr hdep
                        have sg : ac.tmps.getD 116 undef = .bool true := hdep 12 _ 116 (by decide) rfl rfl
                        have s118 : ac.tmps.getD 118 undef = .int .i64 rate := hdep 14 _ 118 (by decide) rfl rfl
                        have s120 : ac.tmps.getD 120 undef = .int .i64 10 := hdep 16 _ 120 (by decide) rfl rfl
                        have s118' := slot' s118
                        have s120' := slot' s120
                        clear hfr hdep
                        refine if_wanted (wanted_yes rfl rfl rfl sg) (fun Q => op_any (fun K hK => ?_))
                        go_simp
                        exact hK _ _ rfl hJ (Below.refl _ _)
                      · intro ac wd hJ hfr hdep
                        have sg : ac.tmps.getD 116 undef = .bool true := hdep 12 _ 116 (by decide) rfl rfl
                        have s121 : ac.tmps.getD 121 undef = .int .i64 mz := hdep 17 _ 121 (by decide) rfl rfl
                        have s121' := slot' s121
                        clear hfr hdep
                        refine if_wanted (wanted_yes rfl rfl rfl sg) (fun Q => op_any (fun K hK => ?_))
                        go_simp
                        exact hK _ _ rfl hJ (Below.refl _ _)
                      · intro ac wd hJ hfr hdep
                        have sg : ac.tmps.getD 113 undef = .bool false := hdep 9 _ 113 (by decide) rfl rfl
                        have s116 : ac.tmps.getD 116 undef = .bool true := hdep 12 _ 116 (by decide) rfl rfl
                        have s122 : ac.tmps.getD 122 undef = .bool false := hdep 18 _ 122 (by decide) rfl rfl
                        have s116' := slot' s116
                        have s122' := slot' s122
                        clear hfr hdep
                        refine if_wanted (wanted_yes rfl rfl rfl sg) (fun Q => op_any (fun K hK => ?_))
                        go_simp
                        exact hK _ _ rfl hJ (Below.refl _ _)
                      · intro ac wd hJ hfr hdep
                        have sg : ac.tmps.getD 113 undef = .bool false := hdep 9 _ 113 (by decide) rfl rfl
                        have s123 : ac.tmps.getD 123 undef = .bool false := hdep 19 _ 123 (by decide) rfl rfl
                        have s123' := slot' s123
                        clear hfr hdep
                        refine if_wanted (wanted_yes rfl rfl rfl sg) (fun Q => op_any (fun K hK => ?_))
                        go_simp
                        exact hK _ _ rfl hJ (Below.refl _ _)
                      · intro ac wd hJ hfr hdep
                        have sg : ac.tmps.getD 124 undef = .bool false := hdep 20 _ 124 (by decide) rfl rfl
                        exact if_unwanted (wanted_no rfl rfl rfl sg (by decide)) rfl
                      · intro ac wd hJ hfr hdep
                        have sg : ac.tmps.getD 124 undef = .bool false := hdep 20 _ 124 (by decide) rfl rfl
                        exact if_unwanted (wanted_no rfl rfl rfl sg (by decide)) rfl
                      · intro ac wd hJ hfr hdep
                        have sg : ac.tmps.getD 124 undef = .bool false := hdep 20 _ 124 (by decide) rfl rfl
                        exact if_unwanted (wanted_no rfl rfl rfl sg (by decide)) rfl
                      · intro ac wd hJ hfr hdep
                        have sg : ac.tmps.getD 124 undef = .bool false := hdep 20 _ 124 (by decide) rfl rfl
                        exact if_unwanted (wanted_no rfl rfl rfl sg (by decide)) rfl
                      · intro ac wd hJ hfr hdep
                        have sg : ac.tmps.getD 124 undef = .bool false := hdep 20 _ 124 (by decide) rfl rfl
                        exact if_unwanted (wanted_no rfl rfl rfl sg (by decide)) rfl
                      · intro ac wd hJ hfr hdep
                        have sg : ac.tmps.getD 124 undef = .bool false := hdep 20 _ 124 (by decide) rfl rfl
                        exact if_unwanted (wanted_no rfl rfl rfl sg (by decide)) rfl
                      · intro ac wd hJ hfr hdep
                        have sg : ac.tmps.getD 124 undef = .bool false := hdep 20 _ 124 (by decide) rfl rfl
                        exact if_unwanted (wanted_no rfl rfl rfl sg (by decide)) rfl
                      · intro ac wd hJ hfr hdep
                        have sg : ac.tmps.getD 113 undef = .bool false := hdep 9 _ 113 (by decide) rfl rfl
                        have s124 : ac.tmps.getD 124 undef = .bool false := hdep 20 _ 124 (by decide) rfl rfl
                        have s131 : ac.tmps.getD 131 undef = undef := hdep 27 _ 131 (by decide) rfl rfl
                        have s124' := slot' s124
                        have s131' := slot' s131
                        clear hfr hdep
                        refine if_wanted (wanted_yes rfl rfl rfl sg) (fun Q => op_any (fun K hK => ?_))
                        go_simp
                        exact hK _ _ rfl hJ (Below.refl _ _)
                      · intro ac wd hJ hfr hdep
                        have sg : ac.tmps.getD 107 undef = .bool true := hdep 3 _ 107 (by decide) rfl rfl
                        have s113 : ac.tmps.getD 113 undef = .bool false := hdep 9 _ 113 (by decide) rfl rfl
                        have s132 : ac.tmps.getD 132 undef = (Value.bool false) := hdep 28 _ 132 (by decide) rfl rfl
                        have s113' := slot' s113
                        have s132' := slot' s132
                        clear hfr hdep
                        refine if_wanted (wanted_yes rfl rfl rfl sg) (fun Q => op_any (fun K hK => ?_))
                        go_simp
                        exact hK _ _ rfl hJ (Below.refl _ _)
                      · intro ac wd hJ hfr hdep
                        have s107 : ac.tmps.getD 107 undef = .bool true := hdep 3 _ 107 (by decide) rfl rfl
                        have s133 : ac.tmps.getD 133 undef = (Value.bool false) := hdep 29 _ 133 (by decide) rfl rfl
                        have s107' := slot' s107
                        have s133' := slot' s133
                        clear hfr hdep
                        refine if_wanted rfl (fun Q => op_any (fun K hK => ?_))
                        go_simp
                        exact hK _ _ rfl hJ (Below.refl _ _)
                      intro f w3 hJ3 hR
                      have e0 : f 0 = .pointer (some ⟨H0, 2, none⟩) := hR 0 (by decide)
                      have e1 : f 1 = .int .i64 rz := hR 1 (by decide)
                      have e2 : f 2 = .bool true := hR 2 (by decide)
                      have e3 : f 3 = .bool true := hR 3 (by decide)
                      have e4 : f 4 = .int .i64 14 := hR 4 (by decide)
                      have e5 : f 5 = .int .i64 xr := hR 5 (by decide)
                      have e6 : f 6 = .pointer (some ⟨P0, 0, none⟩) := hR 6 (by decide)
                      have e7 : f 7 = .int .i64 rate := hR 7 (by decide)
                      have e8 : f 8 = .bool false := hR 8 (by decide)
                      have e9 : f 9 = .bool false := hR 9 (by decide)
                      have e10 : f 10 = .int .i64 14 := hR 10 (by decide)
                      have e11 : f 11 = .bool true := hR 11 (by decide)
                      have e12 : f 12 = .bool true := hR 12 (by decide)
                      have e13 : f 13 = .pointer (some ⟨P0, 0, none⟩) := hR 13 (by decide)
                      have e14 : f 14 = .int .i64 rate := hR 14 (by decide)
                      have e15 : f 15 = .int .i64 14 := hR 15 (by decide)
                      have e16 : f 16 = .int .i64 10 := hR 16 (by decide)
                      have e17 : f 17 = .int .i64 mz := hR 17 (by decide)
                      have e18 : f 18 = .bool false := hR 18 (by decide)
                      have e19 : f 19 = .bool false := hR 19 (by decide)
                      have e20 : f 20 = .bool false := hR 20 (by decide)
                      have e21 : f 21 = undef := hR 21 (by decide)
                      have e22 : f 22 = undef := hR 22 (by decide)
                      have e23 : f 23 = undef := hR 23 (by decide)
                      have e24 : f 24 = undef := hR 24 (by decide)
                      have e25 : f 25 = undef := hR 25 (by decide)
                      have e26 : f 26 = undef := hR 26 (by decide)
                      have e27 : f 27 = undef := hR 27 (by decide)
                      have e28 : f 28 = (Value.bool false) := hR 28 (by decide)
                      have e29 : f 29 = (Value.bool false) := hR 29 (by decide)
                      have e30 : f 30 = (Value.bool false) := hR 30 (by decide)
                      clear hR
                      simp only [finA, Act.put, List.setIfInBounds_toArray, List.set_cons_succ, List.set_cons_zero, Nat.reduceAdd, e0, e1, e2, e3, e4, e5, e6, e7, e8, e9, e10, e11, e12, e13, e14, e15, e16, e17, e18, e19, e20, e21, e22, e23, e24, e25, e26, e27, e28, e29, e30]
                      clear e0 e1 e2 e3 e4 e5 e6 e7 e8 e9 e10 e11 e12 e13 e14 e15 e16 e17 e18 e19 e20 e21 e22 e23 e24 e25 e26 e27 e28 e29 e30
                      have HM3 := Lib.hid (HM.out.below hJ3)
                      clear HM hJ3 HRt
                      go_wp2_with fail
                      go_roundw
                      case rel => exact ⟨k + 1, by omega, .inl hr0, by first | (rw [← Hnx.out]; done) | (rw [← Hnx.out]; rfl), by rw [hz, Hrr0.out]; exact HM3⟩
                      case measure => have := Hc.out; simp [intOf] <;> omega
                    have m0' : (mz == 0) = true := by rw [beq_iff_eq]; exact m0
                    have Hcn2 : Hid (rcR rate (k + 1) = if qz ≤ 65535 then 14 else rz) := by
                      show _ = _
                      rw [Hcn.out]
                      by_cases q : qz ≤ 65535
                      · rw [if_pos q, if_pos ⟨z0, hxc.2 (.inr ⟨by decide, m0, q⟩)⟩]
                      · rw [if_neg q, if_neg (fun h => by rcases hxc.1 h.2 with h | h; exact x0 h; exact q h.2.2)]
                    clear Hcn hxc z0 x0 m0 hm2 hq2
                    refine wp_region_specs [
                      Spec.val (.pointer (some ⟨H0, 2, none⟩)),
                      Spec.val (.int .i64 rz),
                      Spec.val (.bool true),
                      Spec.val (.bool true),
                      Spec.val (.int .i64 14),
                      Spec.val (.int .i64 xr),
                      Spec.val (.pointer (some ⟨P0, 0, none⟩)),
                      Spec.val (.int .i64 rate),
                      Spec.val (.bool false),
                      Spec.val (.bool false),
                      Spec.val (.int .i64 14),
                      Spec.val (.bool true),
                      Spec.val (.bool true),
                      Spec.val (.pointer (some ⟨P0, 0, none⟩)),
                      Spec.val (.int .i64 rate),
                      Spec.val (.int .i64 14),
                      Spec.val (.int .i64 10),
                      Spec.val (.int .i64 mz),
                      Spec.val (.bool true),
                      Spec.val (.bool true),
                      Spec.val (.bool true),
                      Spec.val (.pointer (some ⟨P0, 0, none⟩)),
                      Spec.val (.int .i64 rate),
                      Spec.val (.int .i64 14),
                      Spec.val (.int .i64 10),
                      Spec.val (.int .i64 qz),
                      Spec.val (.int .i64 65535),
                      Spec.val (.bool (decide (qz ≤ 65535))),
                      Spec.val (.bool (decide (qz ≤ 65535))),
                      Spec.val (.bool (decide (qz ≤ 65535))),
                      Spec.val (.bool (decide (qz ≤ 65535)))] w1 (by kernel_rfl) (by repeat (first | exact Below.refl _ _ | assumption | refine below_drewN ?_ _ | refine Below.drew ?_ | refine Below.alloc ?_ (Nat.le_refl _) _ | refine bal ?_ _ | refine bnext ?_ (by assumption))) (n := 155) rfl (by decide +kernel) ⟨?_, ?_, ?_, ?_, ?_, ?_, ?_, ?_, ?_, ?_, ?_, ?_, ?_, ?_, ?_, ?_, ?_, ?_, ?_, ?_, ?_, ?_, ?_, ?_, ?_, ?_, ?_, ?_, ?_, ?_, ?_, trivial⟩ ?_
                    · intro ac wd hJ hfr hdep
                      have s13 : ac.tmps.getD 13 undef = .pointer (some ⟨H0, 0, none⟩) := (hfr 13 (by decide)).trans rfl
                      have s13' := slot' s13
                      clear hfr hdep
                      refine if_wanted rfl (fun Q => op_any (fun K hK => ?_))
                      go_simp
                      exact hK _ _ rfl hJ (Below.refl _ _)
                    · intro ac wd hJ hfr hdep
                      have s104 : ac.tmps.getD 104 undef = .pointer (some ⟨H0, 2, none⟩) := hdep 0 _ 104 (by decide) rfl rfl
                      have s104' := slot' s104
                      clear hfr hdep
                      refine if_wanted rfl (fun Q => op_any (fun K hK => ?_))
                      have hq := (HM.out.below hJ).h.c 2 (.int .i64 rz) rfl
                      go_simp
                      exact hK _ _ rfl hJ (Below.refl _ _)
                    · intro ac wd hJ hfr hdep
                      have s105 : ac.tmps.getD 105 undef = .int .i64 rz := hdep 1 _ 105 (by decide) rfl rfl
                      have s105' := slot' s105
                      clear hfr hdep
                      refine if_wanted rfl (fun Q => op_any (fun K hK => ?_))
                      go_simp
                      exact hK _ _ rfl hJ (Below.refl _ _)
                    · intro ac wd hJ hfr hdep
                      have s106 : ac.tmps.getD 106 undef = .bool true := hdep 2 _ 106 (by decide) rfl rfl
                      have s106' := slot' s106
                      clear hfr hdep
                      refine if_wanted rfl (fun Q => op_any (fun K hK => ?_))
                      go_simp
                      exact hK _ _ rfl hJ (Below.refl _ _)
                    · intro ac wd hJ hfr hdep
                      have sg : ac.tmps.getD 107 undef = .bool true := hdep 3 _ 107 (by decide) rfl rfl
                      have s15 : ac.tmps.getD 15 undef = .int .i64 14 := (hfr 15 (by decide)).trans rfl
                      have s15' := slot' s15
                      clear hfr hdep
                      refine if_wanted (wanted_yes rfl rfl rfl sg) (fun Q => op_any (fun K hK => ?_))
                      go_simp
                      exact hK _ _ rfl hJ (Below.refl _ _)
                    · intro ac wd hJ hfr hdep
                      have sg : ac.tmps.getD 107 undef = .bool true := hdep 3 _ 107 (by decide) rfl rfl
                      have s108 : ac.tmps.getD 108 undef = .int .i64 14 := hdep 4 _ 108 (by decide) rfl rfl
                      have s108' := slot' s108
                      clear hfr hdep
                      refine if_wanted (wanted_yes rfl rfl rfl sg) (fun Q => op_any (fun K hK => ?_))
                      go_simp
                      refine (HRt.out _).mono ?_
                      rintro e wz ⟨rfl, hbz⟩
                      exact hK _ _ rfl (bnext hJ hbz) hbz
                    · intro ac wd hJ hfr hdep
                      have sg : ac.tmps.getD 107 undef = .bool true := hdep 3 _ 107 (by decide) rfl rfl
                      have s9 : ac.tmps.getD 9 undef = .pointer (some ⟨P0, 0, none⟩) := (hfr 9 (by decide)).trans rfl
                      have s9' := slot' s9
                      clear hfr hdep
                      refine if_wanted (wanted_yes rfl rfl rfl sg) (fun Q => op_any (fun K hK => ?_))
                      go_simp
                      exact hK _ _ rfl hJ (Below.refl _ _)
                    · intro ac wd hJ hfr hdep
                      have sg : ac.tmps.getD 107 undef = .bool true := hdep 3 _ 107 (by decide) rfl rfl
                      have s110 : ac.tmps.getD 110 undef = .pointer (some ⟨P0, 0, none⟩) := hdep 6 _ 110 (by decide) rfl rfl
                      have s110' := slot' s110
                      clear hfr hdep
                      refine if_wanted (wanted_yes rfl rfl rfl sg) (fun Q => op_any (fun K hK => ?_))
                      have hq := (HM.out.below hJ).p0
                      go_simp
                      exact hK _ _ rfl hJ (Below.refl _ _)
                    · intro ac wd hJ hfr hdep
                      have sg : ac.tmps.getD 107 undef = .bool true := hdep 3 _ 107 (by decide) rfl rfl
                      have s109 : ac.tmps.getD 109 undef = .int .i64 xr := hdep 5 _ 109 (by decide) rfl rfl
                      have s111 : ac.tmps.getD 111 undef = .int .i64 rate := hdep 7 _ 111 (by decide) rfl rfl
                      have s109' := slot' s109
                      have s111' := slot' s111
                      clear hfr hdep
                      refine if_wanted (wanted_yes rfl rfl rfl sg) (fun Q => op_any (fun K hK => ?_))
                      go_simp
                      exact hK _ _ rfl hJ (Below.refl _ _)
                    · intro ac wd hJ hfr hdep
                      have sg : ac.tmps.getD 107 undef = .bool true := hdep 3 _ 107 (by decide) rfl rfl
                      have s112 : ac.tmps.getD 112 undef = .bool false := hdep 8 _ 112 (by decide) rfl rfl
                      have s112' := slot' s112
                      clear hfr hdep
                      refine if_wanted (wanted_yes rfl rfl rfl sg) (fun Q => op_any (fun K hK => ?_))
                      go_simp
                      exact hK _ _ rfl hJ (Below.refl _ _)
                    · intro ac wd hJ hfr hdep
                      have sg : ac.tmps.getD 113 undef = .bool false := hdep 9 _ 113 (by decide) rfl rfl
                      have s15 : ac.tmps.getD 15 undef = .int .i64 14 := (hfr 15 (by decide)).trans rfl
                      have s15' := slot' s15
                      clear hfr hdep
                      refine if_wanted (wanted_yes rfl rfl rfl sg) (fun Q => op_any (fun K hK => ?_))
                      go_simp
                      exact hK _ _ rfl hJ (Below.refl _ _)
                    · intro ac wd hJ hfr hdep
                      have sg : ac.tmps.getD 113 undef = .bool false := hdep 9 _ 113 (by decide) rfl rfl
                      have s114 : ac.tmps.getD 114 undef = .int .i64 14 := hdep 10 _ 114 (by decide) rfl rfl
                      have s114' := slot' s114
                      clear hfr hdep
                      refine if_wanted (wanted_yes rfl rfl rfl sg) (fun Q => op_any (fun K hK => ?_))
                      go_simp
                      exact hK _ _ rfl hJ (Below.refl _ _)
                    · intro ac wd hJ hfr hdep
                      have sg : ac.tmps.getD 113 undef = .bool false := hdep 9 _ 113 (by decide) rfl rfl
                      have s115 : ac.tmps.getD 115 undef = .bool true := hdep 11 _ 115 (by decide) rfl rfl
                      have s115' := slot' s115
                      clear hfr hdep
                      refine if_wanted (wanted_yes rfl rfl rfl sg) (fun Q => op_any (fun K hK => ?_))
                      go_simp
                      exact hK _ _ rfl hJ (Below.refl _ _)
                    · intro ac wd hJ hfr hdep
                      have sg : ac.tmps.getD 116 undef = .bool true := hdep 12 _ 116 (by decide) rfl rfl
                      have s9 : ac.tmps.getD 9 undef = .pointer (some ⟨P0, 0, none⟩) := (hfr 9 (by decide)).trans rfl
                      have s9' := slot' s9
                      clear hfr hdep
                      refine if_wanted (wanted_yes rfl rfl rfl sg) (fun Q => op_any (fun K hK => ?_))
                      go_simp
                      exact hK _ _ rfl hJ (Below.refl _ _)
                    · intro ac wd hJ hfr hdep
                      have sg : ac.tmps.getD 116 undef = .bool true := hdep 12 _ 116 (by decide) rfl rfl
                      have s117 : ac.tmps.getD 117 undef = .pointer (some ⟨P0, 0, none⟩) := hdep 13 _ 117 (by decide) rfl rfl
                      have s117' := slot' s117
                      clear hfr hdep
                      refine if_wanted (wanted_yes rfl rfl rfl sg) (fun Q => op_any (fun K hK => ?_))
                      have hq := (HM.out.below hJ).p0
                      go_simp
                      exact hK _ _ rfl hJ (Below.refl _ _)
                    · intro ac wd hJ hfr hdep
                      have sg : ac.tmps.getD 116 undef = .bool true := hdep 12 _ 116 (by decide) rfl rfl
                      have s15 : ac.tmps.getD 15 undef = .int .i64 14 := (hfr 15 (by decide)).trans rfl
                      have s15' := slot' s15
                      clear hfr hdep
                      refine if_wanted (wanted_yes rfl rfl rfl sg) (fun Q => op_any (fun K hK => ?_))
                      go_simp
                      exact hK _ _ rfl hJ (Below.refl _ _)
                    · intro ac wd hJ hfr hdep
                      have sg : ac.tmps.getD 116 undef = .bool true := hdep 12 _ 116 (by decide) rfl rfl
                      have s119 : ac.tmps.getD 119 undef = .int .i64 14 := hdep 15 _ 119 (by decide) rfl rfl
                      have s119' := slot' s119
                      clear hfr hdep
                      refine if_wanted (wanted_yes rfl rfl rfl sg) (fun Q => op_any (fun K hK => ?_))
                      go_simp
                      refine (HU.out _).mono ?_
                      rintro e wz ⟨rfl, rfl⟩
                      exact hK _ _ rfl hJ (Below.refl _ _)
                    · intro ac wd hJ hfr hdep
                      have sg : ac.tmps.getD 116 undef = .bool true := hdep 12 _ 116 (by decide) rfl rfl
                      have s118 : ac.tmps.getD 118 undef = .int .i64 rate := hdep 14 _ 118 (by decide) rfl rfl
                      have s120 : ac.tmps.getD 120 undef = .int .i64 10 := hdep 16 _ 120 (by decide) rfl rfl
                      have s118' := slot' s118
                      have s120' := slot' s120
                      clear hfr hdep
                      refine if_wanted (wanted_yes rfl rfl rfl sg) (fun Q => op_any (fun K hK => ?_))
                      go_simp
                      exact hK _ _ rfl hJ (Below.refl _ _)
                    · intro ac wd hJ hfr hdep
                      have sg : ac.tmps.getD 116 undef = .bool true := hdep 12 _ 116 (by decide) rfl rfl
                      have s121 : ac.tmps.getD 121 undef = .int .i64 mz := hdep 17 _ 121 (by decide) rfl rfl
                      have s121' := slot' s121
                      clear hfr hdep
                      refine if_wanted (wanted_yes rfl rfl rfl sg) (fun Q => op_any (fun K hK => ?_))
                      go_simp
                      exact hK _ _ rfl hJ (Below.refl _ _)
                    · intro ac wd hJ hfr hdep
                      have sg : ac.tmps.getD 113 undef = .bool false := hdep 9 _ 113 (by decide) rfl rfl
                      have s116 : ac.tmps.getD 116 undef = .bool true := hdep 12 _ 116 (by decide) rfl rfl
                      have s122 : ac.tmps.getD 122 undef = .bool true := hdep 18 _ 122 (by decide) rfl rfl
                      have s116' := slot' s116
                      have s122' := slot' s122
                      clear hfr hdep
                      refine if_wanted (wanted_yes rfl rfl rfl sg) (fun Q => op_any (fun K hK => ?_))
                      go_simp
                      exact hK _ _ rfl hJ (Below.refl _ _)
                    · intro ac wd hJ hfr hdep
                      have sg : ac.tmps.getD 113 undef = .bool false := hdep 9 _ 113 (by decide) rfl rfl
                      have s123 : ac.tmps.getD 123 undef = .bool true := hdep 19 _ 123 (by decide) rfl rfl
                      have s123' := slot' s123
                      clear hfr hdep
                      refine if_wanted (wanted_yes rfl rfl rfl sg) (fun Q => op_any (fun K hK => ?_))
                      go_simp
                      exact hK _ _ rfl hJ (Below.refl _ _)
                    · intro ac wd hJ hfr hdep
                      have sg : ac.tmps.getD 124 undef = .bool true := hdep 20 _ 124 (by decide) rfl rfl
                      have s9 : ac.tmps.getD 9 undef = .pointer (some ⟨P0, 0, none⟩) := (hfr 9 (by decide)).trans rfl
                      have s9' := slot' s9
                      clear hfr hdep
                      refine if_wanted (wanted_yes rfl rfl rfl sg) (fun Q => op_any (fun K hK => ?_))
                      go_simp
                      exact hK _ _ rfl hJ (Below.refl _ _)
                    · intro ac wd hJ hfr hdep
                      have sg : ac.tmps.getD 124 undef = .bool true := hdep 20 _ 124 (by decide) rfl rfl
                      have s125 : ac.tmps.getD 125 undef = .pointer (some ⟨P0, 0, none⟩) := hdep 21 _ 125 (by decide) rfl rfl
                      have s125' := slot' s125
                      clear hfr hdep
                      refine if_wanted (wanted_yes rfl rfl rfl sg) (fun Q => op_any (fun K hK => ?_))
                      have hq := (HM.out.below hJ).p0
                      go_simp
                      exact hK _ _ rfl hJ (Below.refl _ _)
                    · intro ac wd hJ hfr hdep
                      have sg : ac.tmps.getD 124 undef = .bool true := hdep 20 _ 124 (by decide) rfl rfl
                      have s15 : ac.tmps.getD 15 undef = .int .i64 14 := (hfr 15 (by decide)).trans rfl
                      have s15' := slot' s15
                      clear hfr hdep
                      refine if_wanted (wanted_yes rfl rfl rfl sg) (fun Q => op_any (fun K hK => ?_))
                      go_simp
                      exact hK _ _ rfl hJ (Below.refl _ _)
                    · intro ac wd hJ hfr hdep
                      have sg : ac.tmps.getD 124 undef = .bool true := hdep 20 _ 124 (by decide) rfl rfl
                      have s127 : ac.tmps.getD 127 undef = .int .i64 14 := hdep 23 _ 127 (by decide) rfl rfl
                      have s127' := slot' s127
                      clear hfr hdep
                      refine if_wanted (wanted_yes rfl rfl rfl sg) (fun Q => op_any (fun K hK => ?_))
                      go_simp
                      refine (HU.out _).mono ?_
                      rintro e wz ⟨rfl, rfl⟩
                      exact hK _ _ rfl hJ (Below.refl _ _)
                    · intro ac wd hJ hfr hdep
                      have sg : ac.tmps.getD 124 undef = .bool true := hdep 20 _ 124 (by decide) rfl rfl
                      have s126 : ac.tmps.getD 126 undef = .int .i64 rate := hdep 22 _ 126 (by decide) rfl rfl
                      have s128 : ac.tmps.getD 128 undef = .int .i64 10 := hdep 24 _ 128 (by decide) rfl rfl
                      have s126' := slot' s126
                      have s128' := slot' s128
                      clear hfr hdep
                      refine if_wanted (wanted_yes rfl rfl rfl sg) (fun Q => op_any (fun K hK => ?_))
                      go_simp
                      exact hK _ _ rfl hJ (Below.refl _ _)
                    · intro ac wd hJ hfr hdep
                      have sg : ac.tmps.getD 124 undef = .bool true := hdep 20 _ 124 (by decide) rfl rfl
                      have s16 : ac.tmps.getD 16 undef = .int .i64 65535 := (hfr 16 (by decide)).trans rfl
                      have s16' := slot' s16
                      clear hfr hdep
                      refine if_wanted (wanted_yes rfl rfl rfl sg) (fun Q => op_any (fun K hK => ?_))
                      go_simp
                      exact hK _ _ rfl hJ (Below.refl _ _)
                    · intro ac wd hJ hfr hdep
                      have sg : ac.tmps.getD 124 undef = .bool true := hdep 20 _ 124 (by decide) rfl rfl
                      have s129 : ac.tmps.getD 129 undef = .int .i64 qz := hdep 25 _ 129 (by decide) rfl rfl
                      have s130 : ac.tmps.getD 130 undef = .int .i64 65535 := hdep 26 _ 130 (by decide) rfl rfl
                      have s129' := slot' s129
                      have s130' := slot' s130
                      clear hfr hdep
                      refine if_wanted (wanted_yes rfl rfl rfl sg) (fun Q => op_any (fun K hK => ?_))
                      go_simp
                      exact hK _ _ rfl hJ (Below.refl _ _)
                    · intro ac wd hJ hfr hdep
                      have sg : ac.tmps.getD 113 undef = .bool false := hdep 9 _ 113 (by decide) rfl rfl
                      have s124 : ac.tmps.getD 124 undef = .bool true := hdep 20 _ 124 (by decide) rfl rfl
                      have s131 : ac.tmps.getD 131 undef = .bool (decide (qz ≤ 65535)) := hdep 27 _ 131 (by decide) rfl rfl
                      have s124' := slot' s124
                      have s131' := slot' s131
                      clear hfr hdep
                      refine if_wanted (wanted_yes rfl rfl rfl sg) (fun Q => op_any (fun K hK => ?_))
                      go_simp
                      exact hK _ _ rfl hJ (Below.refl _ _)
                    · intro ac wd hJ hfr hdep
                      have sg : ac.tmps.getD 107 undef = .bool true := hdep 3 _ 107 (by decide) rfl rfl
                      have s113 : ac.tmps.getD 113 undef = .bool false := hdep 9 _ 113 (by decide) rfl rfl
                      have s132 : ac.tmps.getD 132 undef = .bool (decide (qz ≤ 65535)) := hdep 28 _ 132 (by decide) rfl rfl
                      have s113' := slot' s113
                      have s132' := slot' s132
                      clear hfr hdep
                      refine if_wanted (wanted_yes rfl rfl rfl sg) (fun Q => op_any (fun K hK => ?_))
                      go_simp
                      exact hK _ _ rfl hJ (Below.refl _ _)
                    · intro ac wd hJ hfr hdep
                      have s107 : ac.tmps.getD 107 undef = .bool true := hdep 3 _ 107 (by decide) rfl rfl
                      have s133 : ac.tmps.getD 133 undef = .bool (decide (qz ≤ 65535)) := hdep 29 _ 133 (by decide) rfl rfl
                      have s107' := slot' s107
                      have s133' := slot' s133
                      clear hfr hdep
                      refine if_wanted rfl (fun Q => op_any (fun K hK => ?_))
                      go_simp
                      exact hK _ _ rfl hJ (Below.refl _ _)
                    intro f w3 hJ3 hR
                    have e0 : f 0 = .pointer (some ⟨H0, 2, none⟩) := hR 0 (by decide)
                    have e1 : f 1 = .int .i64 rz := hR 1 (by decide)
                    have e2 : f 2 = .bool true := hR 2 (by decide)
                    have e3 : f 3 = .bool true := hR 3 (by decide)
                    have e4 : f 4 = .int .i64 14 := hR 4 (by decide)
                    have e5 : f 5 = .int .i64 xr := hR 5 (by decide)
                    have e6 : f 6 = .pointer (some ⟨P0, 0, none⟩) := hR 6 (by decide)
                    have e7 : f 7 = .int .i64 rate := hR 7 (by decide)
                    have e8 : f 8 = .bool false := hR 8 (by decide)
                    have e9 : f 9 = .bool false := hR 9 (by decide)
                    have e10 : f 10 = .int .i64 14 := hR 10 (by decide)
                    have e11 : f 11 = .bool true := hR 11 (by decide)
                    have e12 : f 12 = .bool true := hR 12 (by decide)
                    have e13 : f 13 = .pointer (some ⟨P0, 0, none⟩) := hR 13 (by decide)
                    have e14 : f 14 = .int .i64 rate := hR 14 (by decide)
                    have e15 : f 15 = .int .i64 14 := hR 15 (by decide)
                    have e16 : f 16 = .int .i64 10 := hR 16 (by decide)
                    have e17 : f 17 = .int .i64 mz := hR 17 (by decide)
                    have e18 : f 18 = .bool true := hR 18 (by decide)
                    have e19 : f 19 = .bool true := hR 19 (by decide)
                    have e20 : f 20 = .bool true := hR 20 (by decide)
                    have e21 : f 21 = .pointer (some ⟨P0, 0, none⟩) := hR 21 (by decide)
                    have e22 : f 22 = .int .i64 rate := hR 22 (by decide)
                    have e23 : f 23 = .int .i64 14 := hR 23 (by decide)
                    have e24 : f 24 = .int .i64 10 := hR 24 (by decide)
                    have e25 : f 25 = .int .i64 qz := hR 25 (by decide)
                    have e26 : f 26 = .int .i64 65535 := hR 26 (by decide)
                    have e27 : f 27 = .bool (decide (qz ≤ 65535)) := hR 27 (by decide)
                    have e28 : f 28 = .bool (decide (qz ≤ 65535)) := hR 28 (by decide)
                    have e29 : f 29 = .bool (decide (qz ≤ 65535)) := hR 29 (by decide)
                    have e30 : f 30 = .bool (decide (qz ≤ 65535)) := hR 30 (by decide)
                    clear hR
                    simp only [finA, Act.put, List.setIfInBounds_toArray, List.set_cons_succ, List.set_cons_zero, Nat.reduceAdd, e0, e1, e2, e3, e4, e5, e6, e7, e8, e9, e10, e11, e12, e13, e14, e15, e16, e17, e18, e19, e20, e21, e22, e23, e24, e25, e26, e27, e28, e29, e30]
                    clear e0 e1 e2 e3 e4 e5 e6 e7 e8 e9 e10 e11 e12 e13 e14 e15 e16 e17 e18 e19 e20 e21 e22 e23 e24 e25 e26 e27 e28 e29 e30
                    by_cases q : qz ≤ 65535
                    · have hz : rcR rate (k + 1) = 14 := by rw [Hcn2.out, if_pos q]
                      clear Hcn2
                      have HM3 := Lib.hid (HM.out.below hJ3)
                      have f2 := HM3.out.h.c 2 (.int .i64 rz) rfl
                      have z2 := HM3.out.fz 2
                      have HM4 := Lib.hid (HM3.out.set 2 (.int .i64 14) ⟨V, BF, 14, m, 0, n, b, rr0, 0⟩ rfl)
                      have f7 := HM4.out.h.c 7 (.int .i64 rr0) rfl
                      have z7 := HM4.out.fz 7
                      have p0 := HM4.out.p0
                      have HM5 := Lib.hid (HM4.out.set 7 (.int .i64 rate) ⟨V, BF, 14, m, 0, n, b, rate, 0⟩ rfl)
                      clear HM hJ3 HRt Hrr0
                      go_wp2_with fail
                      go_roundw
                      case rel => exact ⟨k + 1, by omega, .inl hr0, by first | (rw [← Hnx.out]; done) | (rw [← Hnx.out]; rfl), by rw [hz, if_neg (by omega)]; exact HM5⟩
                      case measure => have := Hc.out; simp [intOf] <;> omega
                    · have hz : rcR rate (k + 1) = rz := by rw [Hcn2.out, if_neg q]
                      clear Hcn2
                      have HM3 := Lib.hid (HM.out.below hJ3)
                      clear HM hJ3 HRt
                      go_wp2_with fail
                      go_roundw
                      case rel => exact ⟨k + 1, by omega, .inl hr0, by first | (rw [← Hnx.out]; done) | (rw [← Hnx.out]; rfl), by rw [hz, Hrr0.out]; exact HM3⟩
                      case measure => have := Hc.out; simp [intOf] <;> omega
end Go.Proofs.YtgohfbfdhdepnaaDoor
