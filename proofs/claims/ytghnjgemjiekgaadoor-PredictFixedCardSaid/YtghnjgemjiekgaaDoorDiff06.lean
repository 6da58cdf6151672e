/-
  jetsamref06.Differ: what it answers, its walk; a fixed order's residuals are the differences.
-/
import Derived.Test.YtghnjgemjiekgaaDoorRRest06
import Derived.Test.YtghnjgemjiekgaaDoorHeadT
namespace Go.Proofs.YtghnjgemjiekgaaDoor
open Go.RowKit

def dif1 (l : List Int) : List Int := (List.range (l.length - 1)).map fun i => l.getD (i + 1) 0 - l.getD i 0
def difN : Nat → List Int → List Int
  | 0, l => l
  | k + 1, l => dif1 (difN k l)
theorem dif1_length (l : List Int) : (dif1 l).length = l.length - 1 := by simp [dif1]
theorem difN_length (l : List Int) : ∀ k, (difN k l).length = l.length - k
  | 0 => rfl
  | k + 1 => by rw [difN, dif1_length, difN_length l k]; omega
theorem dif1_get (l : List Int) (j : Nat) (h : j < l.length - 1) : (dif1 l).getD j 0 = l.getD (j + 1) 0 - l.getD j 0 := by
  rw [List.getD_eq_getElem?_getD, List.getElem?_eq_getElem (by rw [dif1_length]; exact h)]
  simp [dif1]
theorem dif1_snoc (l : List Int) (j : Nat) (h : j + 1 < l.length) : zv ((dif1 l).take (j + 1)) = zv ((dif1 l).take j) ++ [.int .i64 (l.getD (j + 1) 0 - l.getD j 0)] := by
  have hj : j < (dif1 l).length := by rw [dif1_length]; omega
  rw [List.take_succ_eq_append_getElem hj, zv_snoc]
  have := dif1_get l j (by omega)
  rw [List.getD_eq_getElem?_getD, List.getElem?_eq_getElem hj] at this
  simp at this ⊢
  exact this
theorem dif1_bd (l : List Int) (B : Int) (h : ∀ x ∈ l, -B ≤ x ∧ x ≤ B) (hB : 0 ≤ B) : ∀ x ∈ dif1 l, -(2 * B) ≤ x ∧ x ≤ 2 * B := by
  intro x hx
  have hg : ∀ i, -B ≤ l.getD i 0 ∧ l.getD i 0 ≤ B := by
    intro i
    rw [List.getD_eq_getElem?_getD]
    cases e : l[i]? with
    | none => simp; exact hB
    | some y => exact h y (List.mem_of_getElem? e)
  simp only [dif1, List.mem_map] at hx
  obtain ⟨i, -, rfl⟩ := hx
  have h1 := hg i
  have h2 := hg (i + 1)
  omega
theorem difN_bd (l : List Int) (h : okS l) : ∀ k, ∀ x ∈ difN k l, -(4294967296 * (2 : Int) ^ k) ≤ x ∧ x ≤ 4294967296 * (2 : Int) ^ k
  | 0 => fun x hx => by have := h x hx; simp; omega
  | k + 1 => fun x hx => by
    have hp : (0 : Int) < 2 ^ k := Int.pow_pos (by omega)
    have := dif1_bd _ _ (difN_bd l h k) (by omega) x hx
    rw [Int.pow_succ]
    omega

theorem dot_at (ls : List Int) (k j i : Nat) (cs : List Int) (hc : cs.length = k) (hj : k + j ≤ ls.length) (hi : i < k) :
    (((ls.take (k + j)).drop ((ls.take (k + j)).length - cs.length)).getD (((ls.take (k + j)).drop ((ls.take (k + j)).length - cs.length)).length - 1 - i) 0) = ls.getD (j + (k - 1 - i)) 0 := by
  have e1 : (ls.take (k + j)).length = k + j := by rw [List.length_take]; omega
  rw [List.length_drop, e1, hc, List.getD_eq_getElem?_getD, List.getElem?_drop, List.getElem?_take, if_pos (by omega), List.getD_eq_getElem?_getD]
  congr 2
  omega
theorem difN_get (ls : List Int) (k j : Nat) (h : k + 1 + j < ls.length) : (difN (k + 1) ls).getD j 0 = (difN k ls).getD (j + 1) 0 - (difN k ls).getD j 0 := by
  rw [difN, dif1_get _ _ (by rw [difN_length]; omega)]
theorem dif_law (k : Nat) (hk : k < 5) (ls : List Int) : difN k ls = resN (fixC k) 0 ls := by
  have hfl := (fixC_ok k hk).2
  refine List.ext_getElem (by rw [difN_length, resN_length, hfl]) fun j h1 h2 => ?_
  have hj : k + j < ls.length := by rw [difN_length] at h1; omega
  have e1 : (difN k ls)[j] = (difN k ls).getD j 0 := by rw [List.getD_eq_getElem?_getD, List.getElem?_eq_getElem h1]; rfl
  rw [e1]
  simp only [resN, List.getElem_map, List.getElem_range]
  rw [hfl]
  have hd := fun i hi => dot_at ls k j i (fixC k) hfl (by omega) hi
  unfold toldN
  generalize (ls.take (k + j)).drop ((ls.take (k + j)).length - (fixC k).length) = D at *
  rw [hfl]
  have g0 : ∀ j, (difN 0 ls).getD j 0 = ls.getD j 0 := fun j => rfl
  match k, hk with
  | 0, _ =>
    simp only [dotN, g0]; simp
  | 1, _ =>
    have d0 := hd 0 (by omega)
    have f0 : (fixC 1).getD 0 0 = 1 := by decide
    have a0 := difN_get ls 0 j (by omega)
    simp only [dotN, g0, a0, d0, f0, Nat.add_zero, Nat.sub_zero, Nat.sub_self, Nat.reduceSub] at *
    rw [show 1 + j = j + 1 from by omega]
    simp only [Int.pow_zero, Int.ediv_one]
    omega
  | 2, _ =>
    have d0 := hd 0 (by omega)
    have d1 := hd 1 (by omega)
    have f0 : (fixC 2).getD 0 0 = 2 := by decide
    have f1 : (fixC 2).getD 1 0 = -1 := by decide
    have a0 := difN_get ls 1 j (by omega)
    have a1 := difN_get ls 0 j (by omega)
    have a2 := difN_get ls 0 (j + 1) (by omega)
    simp only [dotN, Nat.zero_add, Nat.reduceAdd, g0, a0, a1, a2, d0, d1, f0, f1, Nat.add_zero, Nat.sub_zero, Nat.sub_self, Nat.reduceSub] at *
    rw [show 2 + j = j + 1 + 1 from by omega]
    simp only [Int.pow_zero, Int.ediv_one]
    omega
  | 3, _ =>
    have d0 := hd 0 (by omega)
    have d1 := hd 1 (by omega)
    have d2 := hd 2 (by omega)
    have f0 : (fixC 3).getD 0 0 = 3 := by decide
    have f1 : (fixC 3).getD 1 0 = -3 := by decide
    have f2 : (fixC 3).getD 2 0 = 1 := by decide
    have a0 := difN_get ls 2 j (by omega)
    have a1 := difN_get ls 1 j (by omega)
    have a2 := difN_get ls 1 (j + 1) (by omega)
    have b0 := difN_get ls 0 j (by omega)
    have b1 := difN_get ls 0 (j + 1) (by omega)
    have b2 := difN_get ls 0 (j + 1 + 1) (by omega)
    simp only [dotN, Nat.zero_add, Nat.reduceAdd, g0, a0, a1, a2, b0, b1, b2, d0, d1, d2, f0, f1, f2, Nat.add_zero, Nat.sub_zero, Nat.sub_self, Nat.reduceSub] at *
    rw [show 3 + j = j + 1 + 1 + 1 from by omega, show j + 2 = j + 1 + 1 from by omega]
    simp only [Int.pow_zero, Int.ediv_one]
    omega
  | 4, _ =>
    have d0 := hd 0 (by omega)
    have d1 := hd 1 (by omega)
    have d2 := hd 2 (by omega)
    have d3 := hd 3 (by omega)
    have f0 : (fixC 4).getD 0 0 = 4 := by decide
    have f1 : (fixC 4).getD 1 0 = -6 := by decide
    have f2 : (fixC 4).getD 2 0 = 4 := by decide
    have f3 : (fixC 4).getD 3 0 = -1 := by decide
    have a0 := difN_get ls 3 j (by omega)
    have a1 := difN_get ls 2 j (by omega)
    have a2 := difN_get ls 2 (j + 1) (by omega)
    have b0 := difN_get ls 1 j (by omega)
    have b1 := difN_get ls 1 (j + 1) (by omega)
    have b2 := difN_get ls 1 (j + 1 + 1) (by omega)
    have c0 := difN_get ls 0 j (by omega)
    have c1 := difN_get ls 0 (j + 1) (by omega)
    have c2 := difN_get ls 0 (j + 1 + 1) (by omega)
    have c3 := difN_get ls 0 (j + 1 + 1 + 1) (by omega)
    simp only [dotN, Nat.zero_add, Nat.reduceAdd, g0, a0, a1, a2, b0, b1, b2, c0, c1, c2, c3, d0, d1, d2, d3, f0, f1, f2, f3, Nat.add_zero, Nat.sub_zero, Nat.sub_self, Nat.reduceSub] at *
    rw [show 4 + j = j + 1 + 1 + 1 + 1 from by omega, show j + 3 = j + 1 + 1 + 1 from by omega, show j + 2 = j + 1 + 1 from by omega]
    simp only [Int.pow_zero, Int.ediv_one]
    omega
  | k + 5, h => omega

set_option maxRecDepth 100000 in
set_option maxHeartbeats 2000000 in
theorem Differ_any (k : Nat) (hk : k < 5) (ls : List Int) (A : Option Addr) (c : Nat) (w : World) (hrl : Rd w A (zv ls)) (hs : okS ls) (hl : ls.length ≤ 1000) (hn : A = none → c = 0) :
    Calls Tryd.prog 18 #[.int .i64 k, .slice A ls.length c] w fun e w' => ∃ A' c', e = .returned (.slice A' (difN k ls).length c') ∧ Rd w' A' (zv (difN k ls)) ∧ Below w.heap.size w w' := by
  have Hrl := Lib.hid hrl
  have Hbd := Lib.hid (difN_bd ls hs)
  have Hlen := Lib.hid (difN_length ls)
  clear hrl hs
  go_enter Tryd.func18, Tryd.ntmps18
  go_upto_region 2 with fail
  go_wp2_with (at_builtin; refine appN (w0 := w) (base := w.heap.size) rfl _ _ 22 rfl Tryd.underlying22 info_int rfl rfl (World.ownsRow_nil w w.heap.size _ 1) (Nat.le_refl _) (Nat.le_refl _) (Below.refl _ _) rfl Hrl.out (by simp [zv]) hn (zv_one _) (by omega) (by unfold maxLen; omega) ?_; intro v1 w6 own1 hb6 hs6 hnil6; have Hown1 := Lib.hid own1; have Hb6 := Lib.hid hb6; clear own1 hb6 hnil6)
  have hown := Hown1.out
  rw [Nat.zero_add, List.nil_append] at hown
  obtain ⟨A1, c1, rfl, hc1, hr1⟩ := own_rd hown
  have Hr1 : Hid (Rd w6 A1 (zv (difN 0 ls))) := hr1
  have Hll : Hid (ls.length = (difN 0 ls).length) := rfl
  clear hown Hown1 hr1
  go_loopw [5, 6] (fun v iv wr => ∃ (i : Nat) (A' : Option Addr) (c' : Nat), i ≤ k ∧ iv = .int .i64 (i : Int) ∧ Hid (v = .slice A' (difN i ls).length c') ∧ Hid (Rd wr A' (zv (difN i ls))) ∧ Hid (Below w.heap.size w wr)) (fun _ iv _ => k - (intOf iv).toNat)
  case atStart => exact ⟨0, A1, c1, by omega, rfl, by show _ = _; rw [Hll.out], Hr1.out, Hb6.out⟩
  case round =>
    clear Hr1 Hll Hb6
    obtain ⟨i, A', c', hi, rfl, Hv, Hr, Hb⟩ := hrel
    by_cases hii : i < k
    · have Hd : Hid (difN (i + 1) ls = dif1 (difN i ls)) := rfl
      have Hbi : Hid (∀ x ∈ difN i ls, -68719476736 ≤ x ∧ x ≤ 68719476736) := by
        intro x hx
        have h := Hbd.out i x hx
        have hp : (2 : Int) ^ i ≤ 16 := by
          match i, (show i < 5 by omega) with
          | 0, _ => decide
          | 1, _ => decide
          | 2, _ => decide
          | 3, _ => decide
          | 4, _ => decide
          | i + 5, h => omega
        omega
      have hDl : (difN i ls).length ≤ 1000 := by rw [Hlen.out]; omega
      generalize difN i ls = D at *
      obtain ⟨wo, rfl⟩ : ∃ wo, wo = wr := ⟨_, rfl⟩
      have hv := Hv.out
      subst hv
      clear Hv
      go_wp2_with fail
      go_loopw [7, 8] (fun nv qv wq => ∃ r q : Nat, r ≤ D.length - 1 ∧ qv = .int .i64 (q : Int) ∧ Hid (r + 1 = q) ∧ Hid (wq.ownsRow wo.heap.size 3 1 nv r (zv ((dif1 D).take r))) ∧ Hid (Below wo.heap.size wo wq)) (fun _ qv _ => D.length - (intOf qv).toNat)
      case atStart => exact ⟨0, 1, by omega, rfl, rfl, World.ownsRow_nil wo wo.heap.size _ 1, Below.refl _ _⟩
      case round =>
        obtain ⟨r, q, hr, rfl, Hq, Hv, Hbq⟩ := hrel
        have hqr := Hq.out
        by_cases hqq : q < D.length
        · have hrr : r < D.length := by omega
          obtain ⟨b, ob, rfl, hc⟩ := (Hr.out.below Hbq.out) q (.int .i64 (D.getD q 0)) (by rw [zv_get D q hqq]; simp [List.getD_eq_getElem?_getD, List.getElem?_eq_getElem hqq])
          have HQ : Hid (∀ W : World, Below wo.heap.size wo W → W.cell? ⟨b, ob + q, none⟩ = some (.int .i64 (D.getD q 0)) ∧ W.cell? ⟨b, ob + r, none⟩ = some (.int .i64 (D.getD r 0))) := by
            intro W hW
            obtain ⟨b', o', e, h1⟩ := (Hr.out.below hW) q (.int .i64 (D.getD q 0)) (by rw [zv_get D q hqq]; simp [List.getD_eq_getElem?_getD, List.getElem?_eq_getElem hqq])
            injection e with e; injection e with e1 e2; subst e1 e2
            obtain ⟨b', o', e, h2⟩ := (Hr.out.below hW) r (.int .i64 (D.getD r 0)) (by rw [zv_get D r hrr]; simp [List.getD_eq_getElem?_getD, List.getElem?_eq_getElem hrr])
            injection e with e; injection e with e1 e2; subst e1 e2
            exact ⟨h1, h2⟩
          have Hsn : Hid (zv ((dif1 D).take (r + 1)) = zv ((dif1 D).take r) ++ [.int .i64 (D.getD q 0 - D.getD r 0)]) := by
            show _ = _
            rw [dif1_snoc D r (by omega), hqr]
          have hbx : ∀ i, -68719476736 ≤ D.getD i 0 ∧ D.getD i 0 ≤ 68719476736 := by
            intro i
            rw [List.getD_eq_getElem?_getD]
            cases e : D[i]? with
            | none => simp
            | some y => exact Hbi.out y (List.mem_of_getElem? e)
          have h1 := hbx q
          have h2 := hbx r
          clear hbx hc
          generalize D.getD q 0 = x at *
          generalize D.getD r 0 = y at *
          have hwx : IntKind.i64.wrap (x - y) = x - y := by rw [IntKind.wrap_i64]; omega
          have hwq : IntKind.i64.wrap ((q : Int) - 1) = (q : Int) - 1 := by rw [IntKind.wrap_i64]; omega
          have hi1 : (q : Int) < D.length := by omega
          have hi2 : (q : Int) - 1 < D.length := by omega
          have hi3 : (0 : Int) ≤ (q : Int) - 1 := by omega
          have hi5 : (1 : Int) ≤ q := by omega
          have hi4 : ((q : Int) - 1).toNat = r := by omega
          have hr1000 : r ≤ 1000 := by omega
          clear hqr h1 h2
          go_wp2_with fail
          refine wp_region_headN (fun W' => W'.cell? ⟨b, ob + q, none⟩ = some (.int .i64 x) ∧ W'.cell? ⟨b, ob + r, none⟩ = some (.int .i64 y)) 11 3 (by kernel_rfl) rfl (by kernel_rfl) (HQ.out wr.drew (Hbq.out.drew)) ?_
          simp only [List.take_succ_cons, List.take_zero]
          refine' wpHead_op _ (by rfl) ?hv1 ?hrest1
          case hv1 => (intro w' hS'; (try dsimp only at hS'); go_simp; try with_reducible rfl)
          try simp only [Act.put, List.setIfInBounds_toArray, List.set_cons_zero, List.set_cons_succ]
          refine' wpHead_op _ (by rfl) ?hv2 ?hrest2
          case hv2 => (intro w' hS'; (try dsimp only at hS'); go_simp; try with_reducible rfl)
          try simp only [Act.put, List.setIfInBounds_toArray, List.set_cons_zero, List.set_cons_succ]
          refine' wpHead_op _ (by rfl) ?hv3 ?hrest3
          case hv3 => (intro w' hS'; (try dsimp only at hS'); go_simp; try with_reducible rfl)
          try simp only [Act.put, List.setIfInBounds_toArray, List.set_cons_zero, List.set_cons_succ]
          refine' wpHead_op _ (by rfl) ?hv4 ?hrest4
          case hv4 => (intro w' hS'; (try dsimp only at hS'); go_simp; try with_reducible rfl)
          try simp only [Act.put, List.setIfInBounds_toArray, List.set_cons_zero, List.set_cons_succ]
          refine' wpHead_op _ (by rfl) ?hv5 ?hrest5
          case hv5 => (intro w' hS'; (try dsimp only at hS'); go_simp; try with_reducible rfl)
          try simp only [Act.put, List.setIfInBounds_toArray, List.set_cons_zero, List.set_cons_succ]
          refine' wpHead_op _ (by rfl) ?hv6 ?hrest6
          case hv6 => (intro w' hS'; (try dsimp only at hS'); go_simp; try with_reducible rfl)
          try simp only [Act.put, List.setIfInBounds_toArray, List.set_cons_zero, List.set_cons_succ]
          refine' wpHead_op _ (by rfl) ?hv7 ?hrest7
          case hv7 => (intro w' hS'; (try dsimp only at hS'); go_simp; try with_reducible rfl)
          try simp only [Act.put, List.setIfInBounds_toArray, List.set_cons_zero, List.set_cons_succ]
          refine' wpHead_op _ (by rfl) ?hv8 ?hrest8
          case hv8 => (intro w' hS'; (try dsimp only at hS'); go_simp; try with_reducible rfl)
          try simp only [Act.put, List.setIfInBounds_toArray, List.set_cons_zero, List.set_cons_succ]
          refine' wpHead_op _ (by rfl) ?hv9 ?hrest9
          case hv9 => (intro w' hS'; (try dsimp only at hS'); go_simp; try with_reducible rfl)
          try simp only [Act.put, List.setIfInBounds_toArray, List.set_cons_zero, List.set_cons_succ]
          refine' wpHead_op _ (by rfl) ?hv10 ?hrest10
          case hv10 => (intro w' hS'; (try dsimp only at hS'); go_simp; try with_reducible rfl)
          try simp only [Act.put, List.setIfInBounds_toArray, List.set_cons_zero, List.set_cons_succ]
          refine' wpHead_op _ (by rfl) ?hv11 ?hrest11
          case hv11 => (intro w' hS'; (try dsimp only at hS'); go_simp; try with_reducible rfl)
          try simp only [Act.put, List.setIfInBounds_toArray, List.set_cons_zero, List.set_cons_succ]
          refine wpHead_nil ?_
          obtain ⟨wd, hwd, hb4, hv3⟩ : ∃ wd, wr.drew = wd ∧ Below wo.heap.size wo wd ∧ wd.ownsRow wo.heap.size 3 1 u7 r (zv ((dif1 D).take r)) := ⟨_, rfl, Hbq.out.drew, Hv.out⟩
          have Hv3 := Lib.hid hv3
          rw [hwd]
          clear hwd hv3
          refine wpAnyH_next (i := 11) (by kernel_rfl) rfl (by rfl) (fun K hK => ?_)
          go_simp
          refine hK.out _ _ (HQ.out _ (bal hb4 _)) ?_
          clear hK K
          try simp only [Act.put, List.setIfInBounds_toArray, List.set_cons_zero, List.set_cons_succ]
          refine wpAnyH_next (i := 12) (by kernel_rfl) rfl (by rfl) (fun K hK => ?_)
          refine wp_app1 (w0 := wo) (W := wd.alloc (.cells #[.int .i64 (x - y)] 3)) (H := wd.heap.size) _ _ 22 rfl Tryd.underlying22 info_int rfl (by decide) rfl (Hv3.out.alloc _) (Nat.le_refl _) (by have := hb4.size; simp; omega) (bal hb4 _) rfl (heap_alloc_new wd _) rfl (one_int _ _) (by omega) (by unfold maxLen; omega) ?_
          intro v1 w6 own1 hb6 hs6
          have Hown1 := Lib.hid own1
          have Hb6 := Lib.hid hb6
          refine hK.out _ _ (HQ.out _ hb6) ?_
          clear hK K own1 Hv3 hb6 hb4
          try simp only [Act.put, List.setIfInBounds_toArray, List.set_cons_zero, List.set_cons_succ]
          refine wpAnyH_next (i := 13) (by kernel_rfl) rfl (by rfl) (fun K hK => ?_)
          go_simp
          refine hK.out _ _ (HQ.out _ Hb6.out) ?_
          clear hK K
          try simp only [Act.put, List.setIfInBounds_toArray, List.set_cons_zero, List.set_cons_succ]
          refine wpAnyH_doneN (by kernel_rfl) ?_
          go_wp2_with fail
          go_roundw
          case rel => exact ⟨r + 1, q + 1, by omega, by go_num, by show _ = _; rw [← Hq.out], by rw [Hsn.out]; exact Hown1.out, Hb6.out⟩
          case measure => simp [intOf] <;> omega
        · have hrl : r = (dif1 D).length := by rw [dif1_length]; omega
          subst hrl
          obtain ⟨A2, c2, rfl, hc2, hr2⟩ := own_rd Hv.out
          rw [List.take_length] at hr2
          have hbe := bnext Hb.out Hbq.out
          clear hqr
          go_wp2_with fail
          go_roundw
          case rel => exact ⟨i + 1, A2, c2, by omega, by go_num, by show _ = _; rw [Hd.out], by rw [Hd.out]; exact hr2, hbe⟩
          case measure => simp [intOf] <;> omega
    · obtain rfl : i = k := by omega
      have hv := Hv.out
      subst hv
      clear Hv
      go_wp2_with fail
      go_ret
      exact ⟨A', c', rfl, Hr.out, Hb.out⟩
end Go.Proofs.YtghnjgemjiekgaaDoor
