/-
  jetsamlaw08.HeaderSees: its walk.
-/
import Derived.Test.YtgohfbfdhdepnaaDoorHb12
import Derived.Test.YtgohfbfdhdepnaaDoorHb1
import Derived.Test.YtgohfbfdhdepnaaDoorHb2
import Derived.Deep.DeepCutAuto
import Derived.RegionTactic
import Derived.BigRegion
set_option linter.unusedSimpArgs false
set_option linter.unusedVariables false
namespace Go.Proofs.YtgohfbfdhdepnaaDoor
open Go.RowKit

set_option maxRecDepth 1000000 in
set_option maxHeartbeats 4000000 in
theorem sees_walk (h : Hd) (hr63 : h.r ≤ 9223372036854775807) (at_ d : Int) (w : World) (ht : HTabs w) :
    Calls Tryd.prog 7 #[h.val, .int .i64 at_, .int .i64 d] w fun e w' => e = .returned (.bool true) ∧ Below w.heap.size w w' := by
  have HT := Lib.hid ht
  have HA := Lib.hid (fun W (hb : Below w.heap.size w W) => awake_any W (ht.below hb))
  have Hb0 : Hid (Below w.heap.size w (w.alloc (.cells h.cells 23))) := bal (Below.refl _ _) _
  have HB0 : Hid (HdAt (w.alloc (.cells h.cells 23)) w.heap.size h) := heap_alloc_last w _
  clear ht
  by_cases hk : chkE h = 0
  case neg =>
    have HW := Lib.hid (fun W (hb : Below w.heap.size w W) => Write_no h hr63 hk W (HT.out.below hb))
    have hx : (chkE h != 0) = true := by rw [bne_iff_ne]; exact hk
    generalize chkE h = xc at *
    obtain ⟨V, bc, rc, m, dc, n, b, r, dd⟩ := h
    simp only [Hd.val, Hd.cells] at HW Hb0 ⊢
    clear hr63 hk HB0
    go_enter Tryd.func7, Tryd.ntmps7
    go_wp2_with fail
    refine (HW.out _ Hb0.out).mono ?_
    rintro e w1 ⟨rfl, hb1⟩
    have Hb1 := Lib.hid (bnext Hb0.out hb1)
    clear hb1 HW Hb0
    go_wp2_with fail
    refine (HA.out _ Hb1.out).mono ?_
    rintro e w4 ⟨rfl, hb4⟩
    have Hb4 := Lib.hid (bnext Hb1.out hb4)
    clear hb4 HA
    go_wp2_with fail
    go_ret
    exact ⟨rfl, Hb4.out⟩
  have HW := Lib.hid (fun W (hb : Below w.heap.size w W) => Write_ok h hr63 hk W (HT.out.below hb))
  have HS := Lib.hid (fun (k d : Nat) (hkl : k ≤ 8 * (hdB h).length) (ht : Crc.turned (hdB h) k (256 * d) 8 = true) (x : Hd) (n : Nat) (f : Int) (R : ReadRel (Crc.dmg (hdB h) k (256 * d) 8) x n f) => sees_law hk k d hkl ht R)
  have HP := Lib.hid (fun x n f (R : ReadRel (hdB h) x n f) => read_pre hk (l := hdB h) (d := []) (b := []) rfl R)
  have hFl : (hdB h).length ≤ 16 := by
    have h1 := hdB_length h
    have h2 := hdI_length h
    rw [blkI_length, ratI_length] at h2
    have h3 := (C3.szN_pos h.n.toNat).2
    have h4 := blW_cases (h.bc.toNat : Nat)
    have h5 := raW_cases (h.rc.toNat : Nat)
    omega
  have hF0 : 0 < (hdB h).length := by rw [hdB_length]; omega
  generalize hdB h = FF at *
  obtain ⟨V, bc, rc, m, dc, n, b, r, dd⟩ := h
  simp only [Hd.val, Hd.cells] at HW Hb0 HB0 ⊢
  clear hr63 hk
  by_cases h1 : at_ < 0
  · clear HS HP HB0
    go_enter Tryd.func7, Tryd.ntmps7
    go_wp2_with fail
    refine (HW.out _ Hb0.out).mono ?_
    rintro e w1 ⟨v, rfl, Hown, hb1⟩
    obtain ⟨A1, c1, rfl, hc1, hr1, hn1⟩ := own_nilcap Hown.out
    have Hb1 := Lib.hid (bnext Hb0.out hb1)
    clear HW Hb0 hb1 Hown hr1 hn1
    go_wp2_with fail
    refine (HA.out _ Hb1.out).mono ?_
    rintro e w4 ⟨rfl, hb4⟩
    have Hb4 := Lib.hid (bnext Hb1.out hb4)
    clear hb4 HA
    go_wp2_with fail
    go_ret
    exact ⟨rfl, Hb4.out⟩
  by_cases h2 : 8 * (FF.length : Int) ≤ at_
  · clear HS HP HB0
    go_enter Tryd.func7, Tryd.ntmps7
    go_wp2_with fail
    refine (HW.out _ Hb0.out).mono ?_
    rintro e w1 ⟨v, rfl, Hown, hb1⟩
    obtain ⟨A1, c1, rfl, hc1, hr1, hn1⟩ := own_nilcap Hown.out
    have Hb1 := Lib.hid (bnext Hb0.out hb1)
    clear HW Hb0 hb1 Hown hr1 hn1
    go_wp2_with fail
    refine (HA.out _ Hb1.out).mono ?_
    rintro e w4 ⟨rfl, hb4⟩
    have Hb4 := Lib.hid (bnext Hb1.out hb4)
    clear hb4 HA
    go_wp2_with fail
    go_ret
    exact ⟨rfl, Hb4.out⟩
  by_cases h3 : d < 1
  · clear HS HP HB0
    go_enter Tryd.func7, Tryd.ntmps7
    go_wp2_with fail
    refine (HW.out _ Hb0.out).mono ?_
    rintro e w1 ⟨v, rfl, Hown, hb1⟩
    obtain ⟨A1, c1, rfl, hc1, hr1, hn1⟩ := own_nilcap Hown.out
    have Hb1 := Lib.hid (bnext Hb0.out hb1)
    clear HW Hb0 hb1 Hown hr1 hn1
    go_wp2_with fail
    refine (HA.out _ Hb1.out).mono ?_
    rintro e w4 ⟨rfl, hb4⟩
    have Hb4 := Lib.hid (bnext Hb1.out hb4)
    clear hb4 HA
    go_wp2_with fail
    go_ret
    exact ⟨rfl, Hb4.out⟩
  by_cases h4 : 255 < d
  · clear HS HP HB0
    go_enter Tryd.func7, Tryd.ntmps7
    go_wp2_with fail
    refine (HW.out _ Hb0.out).mono ?_
    rintro e w1 ⟨v, rfl, Hown, hb1⟩
    obtain ⟨A1, c1, rfl, hc1, hr1, hn1⟩ := own_nilcap Hown.out
    have Hb1 := Lib.hid (bnext Hb0.out hb1)
    clear HW Hb0 hb1 Hown hr1 hn1
    go_wp2_with fail
    refine (HA.out _ Hb1.out).mono ?_
    rintro e w4 ⟨rfl, hb4⟩
    have Hb4 := Lib.hid (bnext Hb1.out hb4)
    clear hb4 HA
    go_wp2_with fail
    go_ret
    exact ⟨rfl, Hb4.out⟩
  obtain ⟨k, rfl⟩ := Int.eq_ofNat_of_zero_le (show 0 ≤ at_ by omega)
  obtain ⟨d, rfl⟩ := Int.eq_ofNat_of_zero_le (show 0 ≤ d by omega)
  have Hd : Hid (d < 256) := Lib.hid (by omega)
  go_enter Tryd.func7, Tryd.ntmps7
  go_wp2_with fail
  refine (HW.out _ Hb0.out).mono ?_
  rintro e w1 ⟨v, rfl, Hown, hb1⟩
  obtain ⟨A1, c1, rfl, hc1, hr1, hn1⟩ := own_nilcap Hown.out
  have Hb1 := Lib.hid (bnext Hb0.out hb1)
  have HB1 : Hid (HdAt w1 w.heap.size ⟨V, bc, rc, m, dc, n, b, r, dd⟩) := HB0.out.below hb1
  have Hr1 := Lib.hid hr1
  clear HW Hb0 HB0 hb1 Hown hr1
  have Hlf : Hid ((bv FF).length = FF.length) := by show _ = _; simp [bv]
  have Hone : Hid (∀ (l : List UInt8), ∀ u ∈ bv l, u.oneCell' = true) := fun l => bv_one l
  go_upto_region 6 with (at_builtin; refine appN (w0 := w1) (base := w1.heap.size) rfl _ _ 28 rfl Tryd.underlying28 C3.info_u8 rfl rfl (World.ownsRow_nil w1 w1.heap.size _ 1) (Nat.le_refl _) (Nat.le_refl _) (Below.refl _ _) rfl Hr1.out Hlf.out hn1 (Hone.out FF) (by omega) (by unfold maxLen; omega) ?_; intro v2 w2 own1 hb2 hs2 hnil2; rw [List.nil_append, Nat.zero_add] at own1; have Hown1 := Lib.hid own1; have Hb2 := Lib.hid hb2; clear own1 hb2 hnil2)
  obtain ⟨g, cap, rfl⟩ := form01 Hown1.out hF0
  have hg : w1.heap.size ≤ g := (own_block Hown1.out).choose_spec.2
  clear Hlf Hone Hr1 hn1 hs2
  go_cut [10] (fun v wx => v = .bool false ∧ wx = w2)
  case first =>
    go_wp2_with fail
    go_meet
    exact ⟨rfl, rfl⟩
  case rest =>
    obtain ⟨rfl, rfl⟩ := hcut
    go_step
    exact seLoop V bc rc m dc n b r dd FF hF0 hFl A1 c1 g cap k d (by omega) Hd w w1 _ Hb1 Hb2 HB1 Hown1 hg HT (fun x nn f R => (HP.out x nn f R).elim (fun h => ⟨h.2.1, h.2.2.2⟩) (fun h => absurd h.1 (Nat.lt_irrefl _)))
      (fun ht x nn f R => HS.out k d (by omega) ht x nn f R) _ _ _ _ _ _ _ _ _ _ _ _ _ _ _ _ _ _ _ _ _ _ _ _ _ _ _ _ _ _ _ _ _ _ _ _ _ _ _ _ _ _ _ _ _ _ _ _ _ _ _ _ _ _ _ _ _ _ _ _ _ _ _ _ _ _ _ _ _ _ _ _ _ _ _ _ _ _ _ _ _ _ _ _ _ _ _ _ _ _ _ _ _ _ _ _ _ _ _ _ _ _ 
end Go.Proofs.YtgohfbfdhdepnaaDoor
