/-
  jetsamlaw01.BitsBack: its walk, the first loop.
-/
import Derived.Test.YtfncmgojeaeihaaBackD01
namespace Go.Proofs.Ytfncmgojeaeihaa
open Go.RowKit

theorem blk_keepW {w w' : World} {R : Nat} {bs : List Nat} {u u' : Value} (h : Wtr w R bs u) (f : FrW R u u' w w') {O : Nat} {cs : Array Value} (hO : w.heap[O]? = some (.cells cs 47 (0, 0))) : w'.heap[O]? = some (.cells cs 47 (0, 0)) := by
  refine f.fr.row hO fun hk => ?_
  rcases hk with rfl | hk
  · rw [h.row] at hO
    simp at hO
  · rcases h.own.2 with ⟨rfl, -⟩ | ⟨g2, cap2, cur2, rfl, hb2, hg2, -⟩
    · cases hk
    · have e2 : g2 = O := by injection hk
      subst e2
      rw [hg2] at hO
      simp at hO
theorem below_grown {w wr w7 : World} {n : Nat} {v : Value} {xs : List Value} {e : TypeId} {s : Nat} (h : Below w.heap.size w wr) (ho : wr.ownsRow w.heap.size e s v n xs) (g : wr.grownBy w7 v.ownBlock) : Below w.heap.size w w7 :=
  h.grown g h.size fun k hk => (ho.lt k hk).1
theorem own_keepFr {S : Nat → Prop} {w w' : World} {B n s : Nat} {e : TypeId} {v : Value} {xs : List Value} (ho : w.ownsRow B e s v n xs) (f : Fr S w w') (hs : ∀ k, v.ownBlock = some k → ¬ S k) : w'.ownsRow B e s v n xs := by
  refine ⟨ho.1, ?_⟩
  rcases ho.2 with e | ⟨g, cap, cur, rfl, hb, hg, hn⟩
  · exact .inl e
  · exact .inr ⟨g, cap, cur, rfl, hb, f.row hg (hs g rfl), hn⟩
theorem Wtr.notBlk {w : World} {R : Nat} {bs : List Nat} {u : Value} (h : Wtr w R bs u) {O : Nat} {cs : Array Value} (hO : w.heap[O]? = some (.cells cs 47 (0, 0))) : ∀ k, WS R u k → ¬ k = O := by
  rintro k hk rfl
  rcases hk with rfl | hk
  · rw [h.row] at hO
    simp at hO
  · rcases h.own.2 with ⟨rfl, -⟩ | ⟨g2, cap2, cur2, rfl, hb2, hg2, -⟩
    · cases hk
    · have e2 : g2 = k := by injection hk
      subst e2
      rw [hg2] at hO
      simp at hO
theorem ptE_ok {n v : Int} (h : ptE n v = 0) : 0 ≤ n ∧ n ≤ 48 := by
  unfold ptE at h
  split at h
  · cases h
  · omega
theorem swE_ok {n v : Int} (h : swE n v = 0) : 0 ≤ n ∧ n ≤ 48 := by
  unfold swE at h
  split at h
  · cases h
  · omega

set_option maxRecDepth 100000 in
set_option maxHeartbeats 4000000 in
theorem bitsBack_walk (l : List T3) (A : Option Addr) (c : Nat) (w : World) (hr : RdT w A l) :
    Calls Try.prog 7 #[.slice A l.length c] w fun e w' => e = .returned (.bool true) ∧ Below w.heap.size w w' := by
  have Hr := Lib.hid hr
  clear hr
  by_cases h60 : 60 < l.length
  · clear Hr
    generalize l.length = m at *
    go_enter Try.func7, Try.ntmps7
    go_wp2_with fail
    refine (NewWriter_any _).mono ?_
    rintro e w1 ⟨V, rfl, -, -, -, hb1⟩
    go_wp2_with fail
    refine (awake_any _).mono ?_
    rintro e w2 ⟨rfl, hb2⟩
    have hend := bnext hb1 hb2
    go_wp2_with fail
    go_ret
    exact ⟨rfl, hend⟩
  go_enter Try.func7, Try.ntmps7
  go_wp2_with fail
  refine (NewWriter_any _).mono ?_
  rintro e w1 ⟨V, rfl, hV, hwV, -, hb1⟩
  have HV1 := Lib.hid hV
  have Hb1 := Lib.hid hb1
  clear hV hb1
  go_wp2_with fail
  go_loopw [4, 5] (fun wv iv wr => ∃ (i : Nat) (ws : List T3) (u : Value), i ≤ l.length ∧ iv = .int .i64 (i : Int) ∧ Hid (Fits ws) ∧ Hid (ws.length ≤ i ∧ (codes ws).length ≤ 2000 * i) ∧ Hid (Wtr wr V (codes ws) u) ∧ Hid (wr.ownsRow w.heap.size 47 3 wv ws.length (cellsT ws)) ∧ Hid (Below w.heap.size w wr)) (fun _ iv _ => l.length - (intOf iv).toNat)
  case atStart => exact ⟨0, [], _, by omega, rfl, (fun i x h => by simp at h), ⟨by simp, by simp [codes]⟩, HV1.out, World.ownsRow_nil _ _ _ 3, Hb1.out⟩
  case round =>
    clear HV1 Hb1
    obtain ⟨i, ws, u, hi, rfl, HFt, Hln, HV, Hown, Hb⟩ := hrel
    by_cases hii : i < l.length
    · obtain ⟨b, o, rfl, hc0, hc1, hc2⟩ := (Hr.out.below Hb.out) i l[i] (List.getElem?_eq_getElem hii)
      have hil : (i : Int) < l.length := by omega
      obtain ⟨x, hx⟩ : ∃ x, l[i] = x := ⟨_, rfl⟩
      rw [hx] at hc0 hc1 hc2
      clear hx
      obtain ⟨a, n, v⟩ := x
      simp only at hc0 hc1 hc2
      obtain ⟨wO, hwO, HVO, HownO, HbO, HO⟩ : ∃ wO, wr.alloc (.cells #[.int .i64 a, .int .i64 n, .int .i64 v] 47) = wO ∧ Hid (Wtr wO V (codes ws) u) ∧ Hid (wO.ownsRow w.heap.size 47 3 u4 ws.length (cellsT ws)) ∧ Hid (Below w.heap.size w wO) ∧ Hid (wO.heap[wr.heap.size]? = some (.cells #[.int .i64 a, .int .i64 n, .int .i64 v] 47 (0, 0))) :=
        ⟨_, rfl, HV.out.below (bal (Below.refl _ _) _), Hown.out.alloc _, bal Hb.out _, heap_alloc_last wr _⟩
      obtain ⟨O, hO⟩ : ∃ O, wr.heap.size = O := ⟨_, rfl⟩
      have hO0 := cell_of_row wO O 0 _ _ _ (hO ▸ HO.out)
      have hO1 := cell_of_row wO O 1 _ _ _ (hO ▸ HO.out)
      have hO2 := cell_of_row wO O 2 _ _ _ (hO ▸ HO.out)
      simp only [List.getElem?_toArray, List.getElem?_cons_zero, List.getElem?_cons_succ] at hO0 hO1 hO2
      have HuO : Hid (∀ k, u4.ownBlock = some k → ¬ k = O) := fun k hk e => by have := (Hown.out.lt k hk).2; omega
      have HwO : Hid (w.heap.size ≤ O) := by show _ ≤ _; rw [← hO]; exact Hb.out.size
      rw [hO] at HO
      have HhO := Lib.hid hO
      clear hO
      go_upto_region 9 with fail
      rw [HhO.out]
      clear hwO hc0 hc1 hc2
      by_cases ha0 : a = 0
      · obtain rfl := ha0
        have HP := Lib.hid (Put_any V (codes ws) u n v wO HVO.out (by have := Hln.out; omega))
        have Hx : Hid (ptE n v = 0 → ptB (codes ws) n v = codes ws ++ code ⟨0, n, v⟩ ∧ (code ⟨0, n, v⟩).length ≤ 2000 ∧ fits (codes ws).length ⟨0, n, v⟩) := fun h => ⟨by rw [ptB, if_pos h]; rfl, by have := ptE_ok h; simp [code, vb_length]; omega, .inl ⟨rfl, h⟩⟩
        have Hn : Hid (ptE n v ≠ 0 → ptB (codes ws) n v = codes ws) := fun h => by rw [ptB, if_neg h]
        generalize ptB (codes ws) n v = B at *
        obtain ⟨E, hE⟩ : ∃ E, ptE n v = E := ⟨_, rfl⟩
        rw [hE] at HP Hx Hn
        clear hE
        go_wp2_with fail
        refine HP.out.mono ?_
        rintro e w4 ⟨rfl, u5, hV5, f5⟩
        have Hownc := Lib.hid (own_keepW HownO.out HVO.out f5)
        have Hbc := Lib.hid (f5.below HbO.out HVO.out hwV)
        have hrow := blk_keepW HVO.out f5 HO.out
        have HVc := Lib.hid hV5
        clear hV5 f5 HP
        by_cases hE0 : E = 0
        · obtain rfl := hE0
          obtain ⟨rfl, hcl, hfx⟩ := Hx.out rfl
          have Hcl := Lib.hid hcl
          have HFx := Lib.hid hfx
          clear hcl hfx Hx Hn
          go_upto_region 20 with fail
          apply wp_region_lit
          go_step
          go_step
          go_step
          refine wpList_load_row rfl 47 _ rfl O rfl _ _ _ _ hrow Try.underlying47 rfl (by kernel_rfl) ?_
          go_step
          go_step
          go_step
          refine app1g (n := ws.length) (bytes := 24) rfl _ _ 40 rfl Try.underlying40 info_op rfl (by decide) rfl Hownc.out Hbc.out.size rfl rfl (one_op _ _ _) (by have := Hln.out; omega) (by have := Hln.out; unfold maxLen; omega) ?_
          intro v1 w7 own7 hg7 hat7
          have Hown7 := Lib.hid own7
          have HV7 := Lib.hid (HVc.out.keepL Hownc.out hg7)
          have Hb7 : Hid (Below w.heap.size w w7) := below_grown Hbc.out Hownc.out hg7
          clear own7 hg7 hat7 hrow
          go_wp2_with fail
          go_roundw
          case rel => exact ⟨i + 1, ws ++ [⟨0, n, v⟩], _, by omega, by go_num, Fits.snoc HFt.out HFx.out, ⟨by rw [List.length_append]; simp; exact Hln.out.1, by rw [codes_snoc, List.length_append]; have := Hcl.out; have := Hln.out; omega⟩, by rw [codes_snoc]; exact HV7.out, by rw [List.length_append, cellsT_snoc]; exact Hown7.out, Hb7.out⟩
          case measure => simp [intOf] <;> omega
        · obtain rfl := Hn.out hE0
          have HE := Lib.hid hE0
          clear hE0 Hx Hn hrow
          have hE1 : (E == 0) = false := by rw [beq_eq_false_iff_ne]; exact HE.out
          go_wp2_with fail
          go_roundw
          case rel => exact ⟨i + 1, ws, _, by omega, by go_num, HFt.out, ⟨by have := Hln.out; omega, by have := Hln.out; omega⟩, HVc.out, Hownc.out, Hbc.out⟩
          case measure => simp [intOf] <;> omega
      have hb0 : (a == 0) = false := by rw [beq_eq_false_iff_ne]; exact ha0
      by_cases ha1 : a = 1
      · obtain rfl := ha1
        have HP := Lib.hid (SignedW_any V (codes ws) u n v wO HVO.out (by have := Hln.out; omega))
        have Hx : Hid (swE n v = 0 → swB (codes ws) n v = codes ws ++ code ⟨1, n, v⟩ ∧ (code ⟨1, n, v⟩).length ≤ 2000 ∧ fits (codes ws).length ⟨1, n, v⟩) := fun h => ⟨by rw [swB, if_pos h]; rfl, by have := swE_ok h; simp [code, vb_length]; omega, .inr (.inl ⟨rfl, h⟩)⟩
        have Hn : Hid (swE n v ≠ 0 → swB (codes ws) n v = codes ws) := fun h => by rw [swB, if_neg h]
        generalize swB (codes ws) n v = B at *
        obtain ⟨E, hE⟩ : ∃ E, swE n v = E := ⟨_, rfl⟩
        rw [hE] at HP Hx Hn
        clear hE
        go_wp2_with fail
        refine HP.out.mono ?_
        rintro e w4 ⟨rfl, u5, hV5, f5⟩
        have Hownc := Lib.hid (own_keepW HownO.out HVO.out f5)
        have Hbc := Lib.hid (f5.below HbO.out HVO.out hwV)
        have hrow := blk_keepW HVO.out f5 HO.out
        have HVc := Lib.hid hV5
        clear hV5 f5 HP
        by_cases hE0 : E = 0
        · obtain rfl := hE0
          obtain ⟨rfl, hcl, hfx⟩ := Hx.out rfl
          have Hcl := Lib.hid hcl
          have HFx := Lib.hid hfx
          clear hcl hfx Hx Hn
          go_upto_region 20 with fail
          apply wp_region_lit
          go_step
          go_step
          go_step
          refine wpList_load_row rfl 47 _ rfl O rfl _ _ _ _ hrow Try.underlying47 rfl (by kernel_rfl) ?_
          go_step
          go_step
          go_step
          refine app1g (n := ws.length) (bytes := 24) rfl _ _ 40 rfl Try.underlying40 info_op rfl (by decide) rfl Hownc.out Hbc.out.size rfl rfl (one_op _ _ _) (by have := Hln.out; omega) (by have := Hln.out; unfold maxLen; omega) ?_
          intro v1 w7 own7 hg7 hat7
          have Hown7 := Lib.hid own7
          have HV7 := Lib.hid (HVc.out.keepL Hownc.out hg7)
          have Hb7 : Hid (Below w.heap.size w w7) := below_grown Hbc.out Hownc.out hg7
          clear own7 hg7 hat7 hrow
          go_wp2_with fail
          go_roundw
          case rel => exact ⟨i + 1, ws ++ [⟨1, n, v⟩], _, by omega, by go_num, Fits.snoc HFt.out HFx.out, ⟨by rw [List.length_append]; simp; exact Hln.out.1, by rw [codes_snoc, List.length_append]; have := Hcl.out; have := Hln.out; omega⟩, by rw [codes_snoc]; exact HV7.out, by rw [List.length_append, cellsT_snoc]; exact Hown7.out, Hb7.out⟩
          case measure => simp [intOf] <;> omega
        · obtain rfl := Hn.out hE0
          have HE := Lib.hid hE0
          clear hE0 Hx Hn hrow
          have hE1 : (E == 0) = false := by rw [beq_eq_false_iff_ne]; exact HE.out
          go_wp2_with fail
          go_roundw
          case rel => exact ⟨i + 1, ws, _, by omega, by go_num, HFt.out, ⟨by have := Hln.out; omega, by have := Hln.out; omega⟩, HVc.out, Hownc.out, Hbc.out⟩
          case measure => simp [intOf] <;> omega
      have hb1 : (a == 1) = false := by rw [beq_eq_false_iff_ne]; exact ha1
      by_cases ha2 : a = 2
      · obtain rfl := ha2
        by_cases hv : v ≤ 1000
        · have HP := Lib.hid (UnaryW_any V (codes ws) u v wO HVO.out (by have := Hln.out; omega))
          have Hx : Hid (uwE v = 0 → uwB (codes ws) v = codes ws ++ code ⟨2, n, v⟩ ∧ (code ⟨2, n, v⟩).length ≤ 2000 ∧ fits (codes ws).length ⟨2, n, v⟩) := fun h => ⟨by rw [uwB, if_pos h]; rfl, by simp [code, zb_length]; omega, .inr (.inr (.inl ⟨rfl, h⟩))⟩
          have Hn : Hid (uwE v ≠ 0 → uwB (codes ws) v = codes ws) := fun h => by rw [uwB, if_neg h]
          generalize uwB (codes ws) v = B at *
          obtain ⟨E, hE⟩ : ∃ E, uwE v = E := ⟨_, rfl⟩
          rw [hE] at HP Hx Hn
          clear hE
          go_wp2_with fail
          refine HP.out.mono ?_
          rintro e w4 ⟨rfl, u5, hV5, f5⟩
          have Hownc := Lib.hid (own_keepW HownO.out HVO.out f5)
          have Hbc := Lib.hid (f5.below HbO.out HVO.out hwV)
          have hrow := blk_keepW HVO.out f5 HO.out
          have HVc := Lib.hid hV5
          clear hV5 f5 HP
          by_cases hE0 : E = 0
          · obtain rfl := hE0
            obtain ⟨rfl, hcl, hfx⟩ := Hx.out rfl
            have Hcl := Lib.hid hcl
            have HFx := Lib.hid hfx
            clear hcl hfx Hx Hn
            go_upto_region 20 with fail
            apply wp_region_lit
            go_step
            go_step
            go_step
            refine wpList_load_row rfl 47 _ rfl O rfl _ _ _ _ hrow Try.underlying47 rfl (by kernel_rfl) ?_
            go_step
            go_step
            go_step
            refine app1g (n := ws.length) (bytes := 24) rfl _ _ 40 rfl Try.underlying40 info_op rfl (by decide) rfl Hownc.out Hbc.out.size rfl rfl (one_op _ _ _) (by have := Hln.out; omega) (by have := Hln.out; unfold maxLen; omega) ?_
            intro v1 w7 own7 hg7 hat7
            have Hown7 := Lib.hid own7
            have HV7 := Lib.hid (HVc.out.keepL Hownc.out hg7)
            have Hb7 : Hid (Below w.heap.size w w7) := below_grown Hbc.out Hownc.out hg7
            clear own7 hg7 hat7 hrow
            go_wp2_with fail
            go_roundw
            case rel => exact ⟨i + 1, ws ++ [⟨2, n, v⟩], _, by omega, by go_num, Fits.snoc HFt.out HFx.out, ⟨by rw [List.length_append]; simp; exact Hln.out.1, by rw [codes_snoc, List.length_append]; have := Hcl.out; have := Hln.out; omega⟩, by rw [codes_snoc]; exact HV7.out, by rw [List.length_append, cellsT_snoc]; exact Hown7.out, Hb7.out⟩
            case measure => simp [intOf] <;> omega
          · obtain rfl := Hn.out hE0
            have HE := Lib.hid hE0
            clear hE0 Hx Hn hrow
            have hE1 : (E == 0) = false := by rw [beq_eq_false_iff_ne]; exact HE.out
            go_wp2_with fail
            go_roundw
            case rel => exact ⟨i + 1, ws, _, by omega, by go_num, HFt.out, ⟨by have := Hln.out; omega, by have := Hln.out; omega⟩, HVc.out, Hownc.out, Hbc.out⟩
            case measure => simp [intOf] <;> omega
        · skip
          go_wp2_with fail
          go_roundw
          case rel => exact ⟨i + 1, ws, _, by omega, by go_num, HFt.out, ⟨by have := Hln.out; omega, by have := Hln.out; omega⟩, HVO.out, HownO.out, HbO.out⟩
          case measure => simp [intOf] <;> omega
      have hb2 : (a == 2) = false := by rw [beq_eq_false_iff_ne]; exact ha2
      by_cases ha3 : a = 3
      · obtain rfl := ha3
        have HP := Lib.hid (AlignW_any V (codes ws) u wO HVO.out (by have := Hln.out; omega))
        have Hcl : Hid ((code ⟨3, n, (alN (codes ws).length : Nat)⟩).length ≤ 2000) := by show _ ≤ _; simp [code, zb_length, alN]; omega
        have HFx : Hid (fits (codes ws).length ⟨3, n, (alN (codes ws).length : Nat)⟩) := .inr (.inr (.inr ⟨rfl, rfl⟩))
        have HB : Hid (codes ws ++ zb (alN (codes ws).length) = codes ws ++ code ⟨3, n, (alN (codes ws).length : Nat)⟩) := by show _ = _; simp [code]
        generalize alN (codes ws).length = k at *
        rw [HB.out] at HP
        clear HB
        go_wp2_with fail
        refine HP.out.mono ?_
        rintro e w3 ⟨rfl, u5, hV5, f5⟩
        have Hown3 := Lib.hid (own_keepW HownO.out HVO.out f5)
        have Hb3 := Lib.hid (f5.below HbO.out HVO.out hwV)
        have Hrow3 := Lib.hid (blk_keepW HVO.out f5 HO.out)
        have HV3 := Lib.hid hV5
        have hO2 := cell_of_row w3 O 2 _ _ _ Hrow3.out
        have hOf := frozen_of_row w3 O 2 _ _ Hrow3.out
        clear hV5 f5 HP
        go_upto_region 18 with fail
        have f3 : Fr (· = O) w3 (w3.setCell ⟨O, 2, none⟩ (.int .i64 k)) := (Fr.refl _ _).put 2 _
        have Hownc := Lib.hid (own_keepFr Hown3.out f3 HuO.out)
        have HVc := Lib.hid (HV3.out.keep f3 (HV3.out.notBlk Hrow3.out))
        have Hbc := Lib.hid (f3.below Hb3.out (fun k hk => hk ▸ HwO.out))
        have hrow : (w3.setCell ⟨O, 2, none⟩ (.int .i64 k)).heap[O]? = some (.cells #[.int .i64 3, .int .i64 n, .int .i64 k] 47 (0, 0)) := heap_setCell_same w3 O 2 _ _ _ Hrow3.out
        clear f3 Hown3 HV3 Hb3 Hrow3 hO2 hOf
        generalize w3.setCell ⟨O, 2, none⟩ (.int .i64 k) = w4 at *
        go_upto_region 20 with fail
        apply wp_region_lit
        go_step
        go_step
        go_step
        refine wpList_load_row rfl 47 _ rfl O rfl _ _ _ _ hrow Try.underlying47 rfl (by kernel_rfl) ?_
        go_step
        go_step
        go_step
        refine app1g (n := ws.length) (bytes := 24) rfl _ _ 40 rfl Try.underlying40 info_op rfl (by decide) rfl Hownc.out Hbc.out.size rfl rfl (one_op _ _ _) (by have := Hln.out; omega) (by have := Hln.out; unfold maxLen; omega) ?_
        intro v1 w7 own7 hg7 hat7
        have Hown7 := Lib.hid own7
        have HV7 := Lib.hid (HVc.out.keepL Hownc.out hg7)
        have Hb7 : Hid (Below w.heap.size w w7) := below_grown Hbc.out Hownc.out hg7
        clear own7 hg7 hat7 hrow
        go_wp2_with fail
        go_roundw
        case rel => exact ⟨i + 1, ws ++ [⟨3, n, (k : Int)⟩], _, by omega, by go_num, Fits.snoc HFt.out HFx.out, ⟨by rw [List.length_append]; simp; exact Hln.out.1, by rw [codes_snoc, List.length_append]; have := Hcl.out; have := Hln.out; omega⟩, by rw [codes_snoc]; exact HV7.out, by rw [List.length_append, cellsT_snoc]; exact Hown7.out, Hb7.out⟩
        case measure => simp [intOf] <;> omega
      have hb3 : (a == 3) = false := by rw [beq_eq_false_iff_ne]; exact ha3
      go_wp2_with fail
      go_roundw
      case rel => exact ⟨i + 1, ws, _, by omega, by go_num, HFt.out, ⟨by have := Hln.out; omega, by have := Hln.out; omega⟩, HVO.out, HownO.out, HbO.out⟩
      case measure => simp [intOf] <;> omega
    · obtain rfl : i = l.length := by omega
      clear Hr
      have hcl : (codes ws).length ≤ 120000 := by have := Hln.out; omega
      have hwl : ws.length ≤ 60 := by have := Hln.out; omega
      obtain ⟨A4, c4, rfl, hcc4, hR4, hA4⟩ := own_rdT Hown.out
      have HT := Lib.hid hR4
      have HA4 := Lib.hid hA4
      have HBy := Lib.hid (Bytes_any V _ _ wr HV.out (by omega))
      clear Hown hR4 hA4 Hln h60 hii hi
      generalize l.length = m at *
      have Hpl := Lib.hid (pkL_length (codes ws))
      have Hst := Lib.hid (codes_stand ws)
      have Hpn := Lib.hid (place_next ws)
      obtain ⟨t, ht⟩ : ∃ t, (codes ws).length = t := ⟨_, rfl⟩
      rw [ht] at Hpl hcl
      generalize pkL (codes ws) = p at *
      have hpl1 : p.length ≤ 15001 := by have := Hpl.out; omega
      have hpl2 : t ≤ 8 * p.length := by have := Hpl.out; omega
      have hpl3 : 8 * p.length < t + 8 := by have := Hpl.out; omega
      go_wp2_with fail
      refine HBy.out.mono ?_
      rintro e w5 ⟨A1, c1, rfl, -, -, hr1, hn1, hb5⟩
      have HV5 := Lib.hid (HV.out.below hb5)
      have HT5 := Lib.hid (HT.out.below hb5)
      have Hb5 := Lib.hid (bnext Hb.out hb5)
      have HA5 : Hid (∀ k o, A4 = some ⟨k, o, none⟩ → k < w5.heap.size) := fun k o h => Nat.lt_of_lt_of_le (HA4.out k o h) hb5.size
      have HNR := Lib.hid (NewReader_any p A1 c1 w5 hr1 (by omega) hn1)
      clear HBy HV HT Hb hb5 hr1 hn1 HA4
      go_wp2_with fail
      refine HNR.out.mono ?_
      rintro e w6 ⟨R, A', c', rfl, hR6, hRw, hRl, hb6⟩
      have HV6 := Lib.hid (HV5.out.below hb6)
      have HT6 := Lib.hid (HT5.out.below hb6)
      have Hb6 := Lib.hid (bnext Hb5.out hb6)
      have HWR : Hid (∀ k, WS V u k → ¬ k = R) := fun k hk e => by have := HV5.out.lt k hk; omega
      have HAR : Hid (∀ k o, A4 = some ⟨k, o, none⟩ → ¬ k = R) := fun k o h e => by have := HA5.out k o h; omega
      have hwR : w.heap.size ≤ R := Nat.le_trans Hb5.out.size hRw
      have HR6 := Lib.hid hR6
      have HLf := Lib.hid (fun W (hW : Below w6.heap.size w6 W) => Left_any R 0 A' p.length c' W (hR6.below hW).row (by omega) (by omega))
      have HLn := Lib.hid (fun W (hW : Below w6.heap.size w6 W) => Len_any V _ _ W (HV6.out.below hW))
      rw [ht] at HLn
      have h80 : (8 * (p.length : Int) - ((0 : Nat) : Int)) = 8 * (p.length : Int) := by omega
      rw [h80] at HLf
      clear HNR HV5 HT5 Hb5 hb6 hR6 HA5 hRw hRl h80
      have hf1 : ¬ 8 * (p.length : Int) < (t : Int) := by omega
      have hf2 : ¬ 8 * (p.length : Int) ≥ (t : Int) + 8 := by omega
      go_wp2_with fail
      refine (HLf.out _ (Below.refl _ _)).mono ?_
      rintro e w7 ⟨rfl, hb7⟩
      go_wp2_with fail
      refine (HLn.out _ hb7).mono ?_
      rintro e w7' ⟨rfl, rfl⟩
      go_wp2_with fail
      refine (HLf.out _ hb7).mono ?_
      rintro e w8 ⟨rfl, hb8⟩
      have hb78 := bnext hb7 hb8
      go_wp2_with fail
      refine (HLn.out _ hb78).mono ?_
      rintro e w8' ⟨rfl, rfl⟩
      have HR9 := Lib.hid (HR6.out.below hb78)
      have HV9 := Lib.hid (HV6.out.below hb78)
      have HT9 := Lib.hid (HT6.out.below hb78)
      have Hb9 := Lib.hid (bnext Hb6.out hb78)
      have Ht := Lib.hid ht
      clear HR6 HV6 HT6 Hb6 HLf HLn hb7 hb8 hb78 ht
      go_wp2_with fail
      clear hf1 hf2
      go_loopw [9] (fun iv wr => ∃ (j : Nat), j ≤ ws.length ∧ iv = .int .i64 (j : Int) ∧ Hid (Rdr wr R (codes (ws.take j)).length A' p c') ∧ Hid (Wtr wr V (codes ws) u) ∧ Hid (RdT wr A4 ws) ∧ Hid (Below w.heap.size w wr)) (fun iv _ => ws.length - (intOf iv).toNat)
      case atStart => exact ⟨0, by omega, rfl, HR9.out, HV9.out, HT9.out, Hb9.out⟩
      case round =>
        clear HR9 HV9 HT9 Hb9
        obtain ⟨j, hj, rfl, HR, HV, HT, Hb⟩ := hrel
        by_cases hjj : j < ws.length
        · obtain ⟨b, o, rfl, hc0, hc1, hc2⟩ := HT.out j ws[j] (List.getElem?_eq_getElem hjj)
          have hjl : (j : Int) < ws.length := by omega
          have Hfx := Lib.hid (HFt.out j ws[j] (List.getElem?_eq_getElem hjj))
          have Hsx := Lib.hid (Hst.out j hjj)
          have Hnx := Lib.hid (Hpn.out j hjj)
          obtain ⟨x, hx⟩ : ∃ x, ws[j] = x := ⟨_, rfl⟩
          rw [hx] at hc0 hc1 hc2 Hfx Hsx Hnx
          clear hx
          obtain ⟨a, n, v⟩ := x
          simp only at hc0 hc1 hc2
          generalize (codes (ws.take j)).length = q at *
          obtain ⟨wO, hwO, HRO, HVO, HTO, HbO, HO⟩ : ∃ wO, wr.alloc (.cells #[.int .i64 a, .int .i64 n, .int .i64 v] 47) = wO ∧ Hid (Rdr wO R q A' p c') ∧ Hid (Wtr wO V (codes ws) u) ∧ Hid (RdT wO (some ⟨b, o, none⟩) ws) ∧ Hid (Below w.heap.size w wO) ∧ Hid (wO.heap[wr.heap.size]? = some (.cells #[.int .i64 a, .int .i64 n, .int .i64 v] 47 (0, 0))) :=
            ⟨_, rfl, HR.out.below (bal (Below.refl _ _) _), HV.out.below (bal (Below.refl _ _) _), HT.out.below (bal (Below.refl _ _) _), bal Hb.out _, heap_alloc_last wr _⟩
          have hRlt : R < wr.heap.size := (Array.getElem?_eq_some_iff.1 HR.out.row).1
          obtain ⟨O, hO⟩ : ∃ O, wr.heap.size = O := ⟨_, rfl⟩
          have hO0 := cell_of_row wO O 0 _ _ _ (hO ▸ HO.out)
          have hO1 := cell_of_row wO O 1 _ _ _ (hO ▸ HO.out)
          have hO2 := cell_of_row wO O 2 _ _ _ (hO ▸ HO.out)
          simp only [List.getElem?_toArray, List.getElem?_cons_zero, List.getElem?_cons_succ] at hO0 hO1 hO2
          have HOR : Hid (O ≠ R) := fun e => by omega
          have HhO := Lib.hid hO
          clear hO hRlt HO
          go_upto_region 28 with fail
          rw [HhO.out]
          clear hwO hc0 hc1 hc2 HR HV HT Hb HhO
          have hvv : (v != v) = false := by simp
          rcases Hfx.out with ⟨rfl, hf⟩ | ⟨rfl, hf⟩ | ⟨rfl, hf⟩ | ⟨rfl, hf⟩
          · skip
            have hT := Take_any R q A' p c' n wO HRO.out
            obtain ⟨e1, e2, e3⟩ := do0 Hsx.out hf
            rw [e1, e2, e3] at hT
            have HT := Lib.hid hT
            clear hT e1 e2 e3
            go_wp2_with fail
            refine HT.out.mono ?_
            rintro e w8 ⟨rfl, hR8, f8⟩
            have hV8 := HVO.out.keep f8 HWR.out
            have hT8 := HTO.out.fr f8 HAR.out
            have hb8 : Below w.heap.size w w8 := f8.below HbO.out (fun k hk => by omega)
            have hq2 := f8.cell hO2 (fun e => HOR.out e)
            have HR8 := Lib.hid hR8
            clear HT hO0 hO1 hO2 hR8 f8
            go_wp2_with fail
            go_roundw
            case rel => exact ⟨j + 1, by omega, by go_num, by rw [Hnx.out]; exact HR8.out, hV8, hT8, hb8⟩
            case measure => simp [intOf] <;> omega
          · skip
            have hT := Signed_any R q A' p c' n wO HRO.out
            obtain ⟨e1, e2, e3⟩ := do1 Hsx.out hf
            rw [e1, e2, e3] at hT
            have HT := Lib.hid hT
            clear hT e1 e2 e3
            go_wp2_with fail
            refine HT.out.mono ?_
            rintro e w8 ⟨rfl, hR8, f8⟩
            have hV8 := HVO.out.keep f8 HWR.out
            have hT8 := HTO.out.fr f8 HAR.out
            have hb8 : Below w.heap.size w w8 := f8.below HbO.out (fun k hk => by omega)
            have hq2 := f8.cell hO2 (fun e => HOR.out e)
            have HR8 := Lib.hid hR8
            clear HT hO0 hO1 hO2 hR8 f8
            go_wp2_with fail
            go_roundw
            case rel => exact ⟨j + 1, by omega, by go_num, by rw [Hnx.out]; exact HR8.out, hV8, hT8, hb8⟩
            case measure => simp [intOf] <;> omega
          · skip
            have hT := Unary_any R q A' p c' wO HRO.out
            obtain ⟨e1, e2, e3⟩ := do2 Hsx.out hf
            rw [e1, e2, e3] at hT
            have HT := Lib.hid hT
            clear hT e1 e2 e3
            go_wp2_with fail
            refine HT.out.mono ?_
            rintro e w8 ⟨rfl, hR8, f8⟩
            have hV8 := HVO.out.keep f8 HWR.out
            have hT8 := HTO.out.fr f8 HAR.out
            have hb8 : Below w.heap.size w w8 := f8.below HbO.out (fun k hk => by omega)
            have hq2 := f8.cell hO2 (fun e => HOR.out e)
            have HR8 := Lib.hid hR8
            clear HT hO0 hO1 hO2 hR8 f8
            go_wp2_with fail
            go_roundw
            case rel => exact ⟨j + 1, by omega, by go_num, by rw [Hnx.out]; exact HR8.out, hV8, hT8, hb8⟩
            case measure => simp [intOf] <;> omega
          · simp only at hf
            subst hf
            have hT := Align_any R q A' p c' wO HRO.out
            obtain ⟨e1, e2, e3⟩ := do3 Hsx.out
            rw [e1, e2, e3] at hT
            have HT := Lib.hid hT
            clear hT e1 e2 e3
            go_wp2_with fail
            refine HT.out.mono ?_
            rintro e w8 ⟨rfl, hR8, f8⟩
            have hV8 := HVO.out.keep f8 HWR.out
            have hT8 := HTO.out.fr f8 HAR.out
            have hb8 : Below w.heap.size w w8 := f8.below HbO.out (fun k hk => by omega)
            have hq2 := f8.cell hO2 (fun e => HOR.out e)
            have HR8 := Lib.hid hR8
            clear HT hO0 hO1 hO2 hR8 f8
            go_wp2_with fail
            go_roundw
            case rel => exact ⟨j + 1, by omega, by go_num, by rw [Hnx.out]; exact HR8.out, hV8, hT8, hb8⟩
            case measure => simp [intOf] <;> omega
        · obtain rfl : j = ws.length := by omega
          rw [List.take_length, Ht.out] at HR
          have HAt := Lib.hid (At_any R t A' _ c' wr HR.out.row)
          have HLn := Lib.hid (fun W (hW : Below wr.heap.size wr W) => Len_any V _ _ W (HV.out.below hW))
          rw [Ht.out] at HLn
          go_wp2_with fail
          refine HAt.out.mono ?_
          rintro e w10 ⟨rfl, hb10⟩
          go_wp2_with fail
          refine (HLn.out _ hb10).mono ?_
          rintro e w10' ⟨rfl, rfl⟩
          go_wp2_with fail
          refine (awake_any _).mono ?_
          rintro e w11 ⟨rfl, hb11⟩
          have hend := bnext (bnext Hb.out hb10) hb11
          go_wp2_with fail
          go_ret
          exact ⟨rfl, hend⟩
end Go.Proofs.Ytfncmgojeaeihaa
