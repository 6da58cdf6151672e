/-
  header.Read: its walk.
  header.Make: its walk.
  append onto a row of one's own, with what it turns; a row of one's own beside a Writer.
  The Writer's further facts, the reference's bits and numbers.
  jetsamref01.Put: the walk.
  jetsamref01: Unary and Bytes; Writer.Append.
-/
import Derived.Test.YtgohfbfdhdepnaaDoorHb5
import Derived.Deep.DeepCutAuto
import Derived.Deep.RegionLaw
import Derived.Test.YtgohfbfdhdepnaaDoorHb4
import Derived.Test.YtgohfbfdhdepnaaDoorHb2
namespace Go.Proofs.YtgohfbfdhdepnaaDoor
open Go.RowKit

set_option maxRecDepth 100000 in
set_option maxHeartbeats 16000000 in
theorem Read_any (l : List UInt8) (A : Option Addr) (c : Nat) (w : World) (hr : Rd w A (bv l)) (hl : l.length ≤ 1000) (hc : l.length ≤ c) (hn : A = none → l.length = 0 ∧ c = 0) (ht : HTabs w) :
    Calls Tryd.prog 18 #[.slice A l.length c] w fun z w' => ∃ (x : Hd) (n : Nat) (f : Int), z = .returned (.tuple #[x.val, .int .i64 n, .int .i64 f]) ∧ ReadRel l x n f ∧ Below w.heap.size w w' := by
  have HT := Lib.hid ht
  have hlt : (l.take 16).length = min 16 l.length := List.length_take
  have HN := Lib.hid (fun W (hb : Below w.heap.size w W) => NewReader_any (l.take 16) A c W (by
    have h := (hr.below hb).take 16
    rwa [show (bv l).take 16 = bv (l.take 16) from by simp [bv]] at h) (by omega) (fun h => ⟨by rw [hlt]; have := (hn h).1; omega, (hn h).2⟩))
  obtain ⟨M, hM⟩ : ∃ M, (l.take 16).length = M := ⟨_, rfl⟩
  rw [hM] at HN
  have Hlt : Hid (M = min 16 l.length) := by show _ = _; rw [← hM]; exact hlt
  have hM16 : M ≤ 16 := by omega
  have hMl : M ≤ l.length := by omega
  have hmin : (M : Int) = min (l.length : Int) 16 := by omega
  have hMc : M ≤ c := by omega
  clear hlt hM
  obtain ⟨w1, hw1⟩ : ∃ w1, w.alloc (.cells Hd.zero.cells 23) = w1 := ⟨_, rfl⟩
  have hs1 : w1.heap.size = w.heap.size + 1 := by rw [← hw1]; simp
  have hz1 : HdAt w1 w.heap.size Hd.zero := by rw [← hw1]; exact heap_alloc_last w _
  have hb1 : Below w.heap.size w w1 := by rw [← hw1]; exact bal (Below.refl _ _) _
  have Hz1 := Lib.hid hz1
  have Hb1 := Lib.hid hb1
  have Hs1 := Lib.hid hs1
  simp only [Hd.zero, Hd.cells] at hw1
  have Hw1 := Lib.hid hw1
  have HNw := Lib.hid (HN.out w1 hb1)
  have HRd := Lib.hid (hr.below hb1)
  clear hw1 hs1 hz1 hb1 HN hr ht hmin
  go_enter Tryd.func18, Tryd.ntmps18
  go_upto_region 1 with fail
  rw [Hw1.out]
  clear Hw1
  go_cut [5] (fun v wx => ∃ (Q R : Nat) (A' : Option Addr) (c' : Nat), v = .pointer (some ⟨Q, 0, none⟩) ∧ Rq w1 wx Q R 0 A' (l.take 16) c' 0)
  case first =>
    by_cases h16 : (16 : Int) < l.length
    · obtain rfl : M = 16 := by have := Hlt.out; omega
      go_wp2_with fail
      refine HNw.out.mono ?_
      rintro z w2 ⟨R, A', c', rfl, hrd, hR1, hR2, hb2⟩
      go_wp2_with fail
      go_meet
      exact ⟨w2.heap.size, R, A', c', rfl, heap_alloc_last w2 _, hrd.below (bal (Below.refl _ _) _), bal hb2 _, hb2.size, hR1, by omega⟩
    · obtain rfl : M = l.length := by have := Hlt.out; omega
      go_wp2_with fail
      refine HNw.out.mono ?_
      rintro z w2 ⟨R, A', c', rfl, hrd, hR1, hR2, hb2⟩
      go_wp2_with fail
      go_meet
      exact ⟨w2.heap.size, R, A', c', rfl, heap_alloc_last w2 _, hrd.below (bal (Below.refl _ _) _), bal hb2 _, hb2.size, hR1, by omega⟩
  case rest =>
    obtain ⟨Q, R, A', c', rfl, hq⟩ := hcut
    obtain ⟨w3, hw3⟩ : ∃ w3, wc = w3 := ⟨_, rfl⟩
    rw [hw3] at hq ⊢
    have H3 := Lib.hid hq
    clear hq hw3 HNw hMc hMl hM16
    have HTw1 : Hid (HTabs w1) := HT.out.below Hb1.out
    go_wp2_with fail
    refine (head_any Q R A' (l.take 16) c' w1 _ H3.out HTw1.out).mono ?_
    rintro z w4 ⟨x1, x2, x3, t4, e9, rfl, HRel, b2, b3, hq4, hf4⟩
    have HRR : Hid ((e9 ≠ 0 → ReadRel l Hd.zero 0 e9) ∧ True) := ⟨fun h => ⟨x1, x2, x3, t4, e9, HRel.out, .inl ⟨h, rfl, rfl, rfl⟩⟩, trivial⟩
    have hQ1 := H3.out.leq
    have hR1 := H3.out.ler
    have hQ4 := (Array.getElem?_eq_some_iff.1 hq4.q).1
    have hR4 := (Array.getElem?_eq_some_iff.1 hq4.rd.row).1
    have hsz4 := hq4.b.size
    have hs1 := Hs1.out
    have H4 : Hid (∀ h : Hd, Hr w1 (w4.alloc (.cells h.cells 23)) Q R t4 A' (l.take 16) c' e9 w.heap.size w4.heap.size h) := fun h =>
      ⟨hq4.below (bal (Below.refl _ _) _), hrow_alloc ((hq4.b.block _ (by omega)).trans Hz1.out) _, heap_alloc_last w4 _, ⟨by omega, by omega⟩, ⟨by omega, by omega⟩, by omega, by omega⟩
    obtain ⟨V, hV⟩ : ∃ V : Bool, ((x1 % 2 : Nat) == 1) = V := ⟨_, rfl⟩
    obtain ⟨p2, hp2⟩ : ∃ p : Nat, x2 / 16 = p := ⟨_, rfl⟩
    obtain ⟨q2, hq2⟩ : ∃ p : Nat, x2 % 16 = p := ⟨_, rfl⟩
    obtain ⟨p3, hp3⟩ : ∃ p : Nat, x3 / 16 = p := ⟨_, rfl⟩
    obtain ⟨m3, hm3⟩ : ∃ p : Nat, x3 / 2 % 8 = p := ⟨_, rfl⟩
    have bp2 : p2 < 16 := by omega
    have bq2 : q2 < 16 := by omega
    have bm3 : m3 < 8 := by omega
    have HV := Lib.hid hV
    rw [hV, hp2, hq2, hp3, hm3]
    have Hb4 := Lib.hid (bnext Hb1.out hq4.b)
    clear hQ1 hR1 hQ4 hR4 hsz4 hs1 hq4 hf4 H3 b2 b3 Hz1 Hs1
    have H5 := Lib.hid (H4.out ⟨V, p2, q2, p3, m3, 0, 0, 0, 0⟩)
    clear H4
    simp only [Hd.val]
    simp only [Hd.cells] at H5
    go_upto_region 3 with fail
    generalize w4.alloc (.cells #[.bool V, .int .i64 p2, .int .i64 q2, .int .i64 p3, .int .i64 m3, .int .i64 0, .int .i64 0, .int .i64 0, .int .i64 0] 23) = w5 at *
    generalize w4.heap.size = B2 at *
    have hc1 := H5.out.rq.c1
    by_cases he9 : e9 = 0
    case neg =>
      have he9' : (e9 != 0) = true := by rw [bne_iff_ne]; exact he9
      go_upto_region 4 with fail
      clear hc1
      refine wp_region_headN (fun W' => W'.cell? ⟨Q, 1, none⟩ = some (.int .i64 e9)) 5 3 (by kernel_rfl) rfl (by kernel_rfl) (H5.out.rq.c1) ?_
      simp only [List.take_succ_cons, List.take_zero]
      refine' wpHead_op _ (by rfl) ?hv6 ?hrest6
      case hv6 => (intro w' hS'; (try dsimp only at hS'); go_simp; try with_reducible rfl)
      try simp only [Act.put, List.setIfInBounds_toArray, List.set_cons_zero, List.set_cons_succ]
      refine' wpHead_op _ (by rfl) ?hv7 ?hrest7
      case hv7 => (intro w' hS'; (try dsimp only at hS'); go_simp; try with_reducible rfl)
      try simp only [Act.put, List.setIfInBounds_toArray, List.set_cons_zero, List.set_cons_succ]
      refine' wpHead_op _ (by rfl) ?hv8 ?hrest8
      case hv8 => (intro w' hS'; (try dsimp only at hS'); go_simp; try with_reducible rfl)
      try simp only [Act.put, List.setIfInBounds_toArray, List.set_cons_zero, List.set_cons_succ]
      refine' wpHead_op _ (by rfl) ?hv9 ?hrest9
      case hv9 => (intro w' hS'; (try dsimp only at hS'); go_simp; try with_reducible rfl)
      try simp only [Act.put, List.setIfInBounds_toArray, List.set_cons_zero, List.set_cons_succ]
      refine' wpHead_op _ (by rfl) ?hv10 ?hrest10
      case hv10 => (intro w' hS'; (try dsimp only at hS'); go_simp; try with_reducible rfl)
      try simp only [Act.put, List.setIfInBounds_toArray, List.set_cons_zero, List.set_cons_succ]
      refine wpHead_nil ?_
      refine wpAnyH_next (i := 5) (by kernel_rfl) rfl (by rfl) (fun K hK => ?_)
      refine wp_store_row' (c := Hd.zero.cells) (c' := Hd.zero.cells) (t := 23) 23 _ _ rfl w.heap.size rfl rfl H5.out.z (by kernel_rfl) rfl (Hd.one _) ?_
      intro wz hwz
      have hSz : wz.cell? ⟨Q, 1, none⟩ = some (.int .i64 e9) := by rw [← hwz]; exact (World.cell?_of_block (setRow_other _ _ _ _ (fun k => H5.out.n1.1 k.symm))).trans H5.out.rq.c1
      have hRz : wz.heap[w.heap.size]? = some (.cells Hd.zero.cells 23 (0, 0)) := by rw [← hwz]; exact setRow_heap _ w.heap.size _ _ 23 (0, 0) H5.out.z
      have hBz : Below w.heap.size w wz := by rw [← hwz]; exact Below.setRow ((bnext Hb1.out H5.out.rq.b).drew) (Nat.le_refl _) _
      clear hwz
      refine hK.out _ _ hSz ?_
      clear hK K
      try simp only [Act.put, List.setIfInBounds_toArray, List.set_cons_zero, List.set_cons_succ]
      refine wpAnyH_next (i := 6) (by kernel_rfl) rfl (by rfl) (fun K hK => ?_)
      go_simp
      refine hK.out _ _ hSz ?_
      clear hK K
      try simp only [Act.put, List.setIfInBounds_toArray, List.set_cons_zero, List.set_cons_succ]
      refine wpAnyH_next (i := 7) (by kernel_rfl) rfl (by rfl) (fun K hK => ?_)
      go_simp
      refine hK.out _ _ hSz ?_
      clear hK K
      try simp only [Act.put, List.setIfInBounds_toArray, List.set_cons_zero, List.set_cons_succ]
      refine wpAnyH_doneN (by kernel_rfl) ?_
      go_wp2_with fail
      exact bodyPost_ret (results_row_tmp2 Tryd.results18 _ _ _ _ rfl rfl rfl hRz Tryd.underlying23 rfl (by kernel_rfl)) rfl ⟨Hd.zero, 0, _, rfl, HRR.out.1 he9, hBz⟩
    case pos =>
      subst he9
      have Hhd := Lib.hid (head_ok HRel.out)
      obtain ⟨rfl, h4t⟩ := Hhd.out
      have h4 : 4 ≤ l.length := by rw [List.length_take] at h4t; omega
      have n4 : (4 : Int) ≤ l.length := by omega
      have n4c : (4 : Int) ≤ c := by omega
      clear h4t HRR
      have HG := Lib.hid (fun A4 c4 W hr hl ht => C3.get_any (n8 (l.drop 4)) (fun x hx => n8_lt hx) A4 c4 W hr hl ht)
      obtain ⟨N, hN⟩ : ∃ N, (C3.getR (n8 (l.drop 4))).1 = N := ⟨_, rfl⟩
      obtain ⟨S, hS⟩ : ∃ S, (C3.getR (n8 (l.drop 4))).2.1 = S := ⟨_, rfl⟩
      obtain ⟨eg, heg⟩ : ∃ eg : Int, ((C3.getR (n8 (l.drop 4))).2.2 : Int) = eg := ⟨_, rfl⟩
      rw [hN, hS, heg] at HG
      have HN := Lib.hid hN
      have HS := Lib.hid hS
      have Heg := Lib.hid heg
      clear hN hS heg
      go_upto_region 5 with fail
      clear hc1
      go_cut [7, 8, 9] (fun a b d wx => a = .int .i64 N ∧ b = .int .i64 S ∧ d = .int .i64 eg ∧ Below w5.heap.size w5 wx)
      case first =>
        have G := HG.out (if c = 4 then A else A.map (·.add 4)) (c - 4) w5 (by
          have h := ((HRd.out.below H5.out.rq.b).drop 4 c (by rw [show (bv l).length = l.length from by simp [bv]]; exact hc))
          rw [show (bv l).drop 4 = C3.nv8 (n8 (l.drop 4)) from by simp only [bv, n8, C3.nv8, List.map_map, List.map_drop]; rfl] at h
          exact h) (by simp [n8]; omega) (HTw1.out.below H5.out.rq.b).lim
        rw [show (n8 (l.drop 4)).length = l.length - 4 from by simp [n8]] at G
        have HG4 := Lib.hid G
        clear G
        go_wp2_with fail
        · have G := HG4.out
          rw [if_pos (by assumption), show c - 4 = 0 by omega] at G
          refine G.mono ?_
          clear G HG4
          rintro z w6 ⟨rfl, b6⟩
          go_wp2_with fail
          obtain rfl : c = 4 := by assumption
          go_meet
          exact ⟨rfl, rfl, rfl, b6⟩
        · have G := HG4.out
          rw [if_neg (by assumption)] at G
          refine G.mono ?_
          clear G HG4
          rintro z w6 ⟨rfl, b6⟩
          go_wp2_with fail
          go_meet
          exact ⟨rfl, rfl, rfl, b6⟩
      case rest =>
        obtain ⟨rfl, rfl, rfl, hb6⟩ := hcut
        obtain ⟨w6, hw6⟩ : ∃ w6, wc = w6 := ⟨_, rfl⟩
        rw [hw6] at hb6 ⊢
        have H6 := Lib.hid (H5.out.below hb6)
        clear hb6 hw6 HG H5
        obtain ⟨mV, hmV⟩ : ∃ m, mostV V = m := ⟨_, rfl⟩
        obtain ⟨X10, hX10⟩ : ∃ b : Bool, decide (mV ≤ (N : Int)) = b := ⟨_, rfl⟩
        obtain ⟨y10, hy10⟩ : ∃ y : Int, (if X10 then (10 : Int) else 0) = y := ⟨_, rfl⟩
        obtain ⟨e10, he10⟩ : ∃ e : Int, fstE [eg, y10] = e := ⟨_, rfl⟩
        have He10 : Hid (fstE [((C3.getR (n8 (l.drop 4))).2.2 : Int), if decide (((C3.getR (n8 (l.drop 4))).1 : Int) ≥ mostV ((x1 % 2 : Nat) == 1)) then 10 else 0] = e10) := by
          show _ = _
          rw [HN.out, Heg.out, HV.out, hmV, ← he10, ← hy10, ← hX10]
        have hmost : Hid (∀ W, Calls Tryd.prog 35 #[.bool V] W fun e w' => e = .returned (.int .i64 mV) ∧ w' = W) := fun W => hmV ▸ most_any V W
        have hwrong : Hid (∀ W, Calls Tryd.prog 34 #[.bool X10, .int .i64 10] W fun e w' => e = .returned (.int .i64 y10) ∧ w' = W) := fun W => hy10 ▸ wrong_any X10 10 W
        have hfirst : Hid (∀ A c W, Rd W A (zv [eg, y10]) → Calls Tryd.prog 33 #[.slice A 2 c] W fun e w' => e = .returned (.int .i64 e10) ∧ w' = W) := fun A c W h => he10 ▸ first_any [eg, y10] A c W h (by simp)
        clear he10 hy10 hmV
        have f0 := H6.out.h.c 0 (.bool V) rfl
        go_wp2_with fail
        refine (hmost.out _).mono ?_
        rintro z wm ⟨rfl, rfl⟩
        go_wp2_with fail
        refine (hwrong.out _).mono ?_
        rintro z wm ⟨rfl, rfl⟩
        go_wp2_with fail
        refine (hfirst.out _ _ _ (Rd.new wm #[.int .i64 eg, .int .i64 y10] 24)).mono ?_
        rintro z wm2 ⟨rfl, hwm2⟩
        have H7 : Hid (Hr w1 wm2 Q R 32 A' (l.take 16) c' 0 w.heap.size B2 ⟨V, p2, q2, p3, m3, 0, 0, 0, 0⟩) := by
          rw [hwm2]; exact H6.out.below (bal (Below.refl _ _) _)
        clear hwm2 f0 H6 hmost hwrong hfirst hX10
        have HRR : Hid ((e10 ≠ 0 → ReadRel l Hd.zero 0 e10) ∧ (e10 = 0 → ∀ bb rr at_ e x n f, TailRel l (l.take 16) p2 q2 ((4 + S) * 8) bb rr at_ e →
            (e ≠ 0 ∧ x = Hd.zero ∧ n = 0 ∧ f = e ∨ e = 0 ∧ x = ⟨V, p2, q2, p3, m3, N, bb, rr, depL.getD m3 0⟩ ∧ n = at_ + 1 ∧ f = 0) → ReadRel l x n f)) := by
          refine ⟨fun h => ⟨x1, x2, x3, 32, 0, HRel.out, .inr ⟨rfl, .inl ⟨by rw [He10.out]; exact h, rfl, rfl, He10.out.symm⟩⟩⟩, fun h bb rr at_ e x n f h1 h2 => ⟨x1, x2, x3, 32, 0, HRel.out, .inr ⟨rfl, .inr ⟨by rw [He10.out]; exact h, bb, rr, at_, e, ?_, ?_⟩⟩⟩⟩
          · rw [HS.out, hp2, hq2]; exact h1
          · rw [HN.out, HV.out, hp2, hq2, hp3, hm3]; exact h2
        have HSz : Hid (e10 = 0 → S ≤ 7 ∧ 4 + S ≤ l.length) := fun h => by
          have h1 := He10.out
          rw [h] at h1
          obtain ⟨h2, -⟩ := fstE_two _ _ h1
          obtain ⟨-, h4, h5, -⟩ := C3.getR_ok (n8 (l.drop 4)) (fun x hx => n8_lt hx) (by omega)
          rw [← h4, HS.out] at h5
          rw [HS.out] at h4
          have h6 := (C3.szN_pos (C3.getR (n8 (l.drop 4))).1).2
          simp [n8] at h5
          omega
        clear HRel He10 HN HS Heg hp2 hq2 hp3 hm3 HV
        go_upto_region 7 with fail
        by_cases he10 : e10 = 0
        case neg =>
          have he10' : (e10 != 0) = true := by rw [bne_iff_ne]; exact he10
          have RR := HRR.out.1 he10
          go_wp2_with (refine wpList_store_row (c := Hd.zero.cells) (c' := Hd.zero.cells) (t := 23) rfl 23 _ _ rfl w.heap.size rfl rfl H7.out.z (by kernel_rfl) rfl (Hd.one _) ?_)
          exact bodyPost_ret (results_row_tmp2 Tryd.results18 _ _ _ _ rfl rfl rfl (setRow_heap _ w.heap.size _ _ 23 (0, 0) H7.out.z) Tryd.underlying23 rfl (by kernel_rfl)) rfl ⟨Hd.zero, 0, e10, rfl, RR, Below.setRow (bnext Hb1.out H7.out.rq.b) (Nat.le_refl _) _⟩
        case pos =>
          subst he10
          obtain ⟨hS7, hSl⟩ := HSz.out rfl
          have HR3 := Lib.hid (HRR.out.2 rfl)
          clear HRR HSz
          have f5 := H7.out.h.c 5 (.int .i64 0) rfl
          have g5 := H7.out.fz 5
          have H8 := Lib.hid (H7.out.set 5 (.int .i64 (N : Int)) ⟨V, p2, q2, p3, m3, N, 0, 0, 0⟩ rfl)
          have k0 := H8.out.rq.c0
          go_upto_region 10 with fail
          generalize wm2.setCell ⟨B2, 5, none⟩ (.int .i64 (N : Int)) = w8 at *
          clear f5 g5 H7
          obtain ⟨T, hT⟩ : ∃ T : Nat, (4 + S) * 8 = T := ⟨_, rfl⟩
          have hTi : (4 + (S : Int)) * 8 = (T : Int) := by omega
          rw [hT] at HR3
          have hlt : (l.take 16).length = min 16 l.length := List.length_take
          have hn : ¬ ((T : Int) < 0 ∨ 8 * ((l.take 16).length : Int) < T) := by omega
          have G := Seek_any R 32 A' (l.take 16) c' T w8 H8.out.rq.rd
          rw [if_neg hn, if_neg hn, Int.toNat_natCast] at G
          have HSk := Lib.hid G
          clear G hn hlt hT
          go_wp2_with fail
          refine HSk.out.mono ?_
          rintro z w9 ⟨rfl, hr9, f9⟩
          have H9 := Lib.hid (H8.out.step (H8.out.rq.moved f9 hr9) (f9.wide fun k hk => .inr hk))
          clear hr9 f9 H8 HSk hTi k0
          have f1 := H9.out.h.c 1 (.int .i64 p2) rfl
          have f2 := H9.out.h.c 2 (.int .i64 q2) rfl
          have f4 := H9.out.h.c 4 (.int .i64 m3) rfl
          have f6 := H9.out.h.c 6 (.int .i64 0) rfl
          have f7 := H9.out.h.c 7 (.int .i64 0) rfl
          have f8 := H9.out.h.c 8 (.int .i64 0) rfl
          have g6 := H9.out.fz 6
          have g7 := H9.out.fz 7
          have g8 := H9.out.fz 8
          have t1 := (HTw1.out.below H9.out.rq.b).blk p2 bp2
          have t2 := (HTw1.out.below H9.out.rq.b).rat q2 bq2
          have t3 := (HTw1.out.below H9.out.rq.b).dep m3 bm3
          have ip2 : (p2 : Int) < 16 := by omega
          have iq2 : (q2 : Int) < 16 := by omega
          have im3 : (m3 : Int) < 8 := by omega
          obtain ⟨kb, hkb⟩ : ∃ k, blkL.getD p2 0 = k := ⟨_, rfl⟩
          obtain ⟨kr, hkr⟩ : ∃ k, ratL.getD q2 0 = k := ⟨_, rfl⟩
          obtain ⟨kd, hkd⟩ : ∃ k, depL.getD m3 0 = k := ⟨_, rfl⟩
          rw [hkb] at t1
          rw [hkr] at t2
          rw [hkd] at t3
          have Hkb := Lib.hid hkb
          have Hkr := Lib.hid hkr
          have Hkd := Lib.hid hkd
          have H12 := Lib.hid (((H9.out.set 6 (.int .i64 kb) ⟨V, p2, q2, p3, m3, N, kb, 0, 0⟩ rfl).set 7 (.int .i64 kr) ⟨V, p2, q2, p3, m3, N, kb, kr, 0⟩ rfl).set 8 (.int .i64 kd) ⟨V, p2, q2, p3, m3, N, kb, kr, kd⟩ rfl)
          have HR4 : Hid (∀ (bb rr : Int) (at_ : Nat) (e : Int) (x : Hd) (n : Nat) (f : Int), TailRel l (l.take 16) p2 q2 T bb rr at_ e → (e ≠ 0 ∧ x = Hd.zero ∧ n = 0 ∧ f = e ∨ e = 0 ∧ x = ⟨V, p2, q2, p3, m3, N, bb, rr, kd⟩ ∧ n = at_ + 1 ∧ f = 0) → ReadRel l x n f) := by
            rw [← hkd]; exact HR3.out
          clear hkb hkr hkd HR3
          have hB2 : 2 < B2 := by
            have h1 := cell_lt (HTw1.out.dep 0 (by decide))
            have h2 := H9.out.le
            omega
          have b20 : ¬ B2 = 0 := by omega
          have b21 : ¬ B2 = 1 := by omega
          have b22 : ¬ B2 = 2 := by omega
          have b02 : ¬ 0 = B2 := by omega
          have b12 : ¬ 1 = B2 := by omega
          have b32 : ¬ 2 = B2 := by omega
          clear hB2
          go_upto_region 11 with fail
          go_region
          have H13 := Lib.hid (H12.out.below ((Below.refl _ _).drew))
          clear f1 f2 f4 f6 f7 f8 g6 g7 g8 t1 t2 t3 b20 b21 b22 b02 b12 b32 ip2 iq2 im3 H9 H12
          generalize (((w9.setCell ⟨B2, 6, none⟩ (.int .i64 kb)).setCell ⟨B2, 7, none⟩ (.int .i64 kr)).setCell ⟨B2, 8, none⟩ (.int .i64 kd)).drew = w12 at *
          go_step
          go_step
          exact tail12 l A c w hl hc w1 Hb1 HRd Q R T A' c' _ B2 V p2 q2 p3 m3 N S kb kr kd H13 Hkb bp2 Hkr bq2 HR4 _ _ _ _ _ _ _ _ _ _ _ _ _ _ _ _ _ _ _ _ _ _ _ _ _ _ _ _ _ _ _ _ _ _ _ _ _ _ _ _ _ _ _ _ _ _ _ _ _ _ _ _ _ _ _ _ _ _ _ _ _ _ _ _ _ _ _ _ _ _ _ _ _ _ _ _ _ _ _ _ _ _ _ _ _ _ _ _ _ _ _ _ _ _ _ _ _ _ _ _ _ _ _ _ _ _ _ _ _ _ _ _ _ _ _ _ _ _ _ _ _ _ _ _ _ _ _ _ _ _ _ _ _ 
end Go.Proofs.YtgohfbfdhdepnaaDoor

namespace Go.Proofs.YtgohfbfdhdepnaaDoor
open Go.RowKit

set_option maxRecDepth 100000 in
set_option maxHeartbeats 8000000 in
theorem Make_any (V : Bool) (n b m rate chans depth : Int) (hbad : ¬ badM b rate depth) (w : World) (ht : HTabs w) :
    Calls Tryd.prog 15 #[.bool V, .int .i64 n, .int .i64 b, .int .i64 m, .agg #[.int .i64 rate, .int .i64 chans, .int .i64 depth]] w fun e w' => e = .returned (.tuple #[(mkR V n b m rate chans depth).val, .int .i64 (mkE V n b m rate chans depth)]) ∧ Below w.heap.size w w' := by
  have HT := Lib.hid ht
  have HE : Hid (mkE V n b m rate chans depth = if chanM m chans = 0 then chkE (mkH V n b m rate depth) else chanM m chans) := if_neg hbad
  have HMR0 : Hid (mkE V n b m rate chans depth = 0 → mkR V n b m rate chans depth = mkH V n b m rate depth) := fun h => if_pos h
  have HMR1 : Hid (mkE V n b m rate chans depth ≠ 0 → mkR V n b m rate chans depth = Hd.zero) := fun h => if_neg h
  generalize mkR V n b m rate chans depth = MR at *
  generalize mkE V n b m rate chans depth = E at *
  have hbad' : ¬ b < 1 ∧ ¬ 65535 < b ∧ ¬ rate < 0 ∧ ¬ 1048575 < rate ∧ ¬ depth < 4 ∧ ¬ 32 < depth := by unfold badM at hbad; omega
  obtain ⟨h1, h2, h3, h4, h5, h6⟩ := hbad'
  have h2' : ¬ b > 65535 := h2
  have h4' : ¬ rate > 1048575 := h4
  have h6' : ¬ depth > 32 := h6
  clear hbad ht
  have HC := Lib.hid (fun W => Channels_any m W)
  have HWr : Hid (∀ W, Calls Tryd.prog 34 #[.bool (chN m != chans), .int .i64 22] W fun e w' => e = .returned (.int .i64 (if (chN m != chans) then (22 : Int) else 0)) ∧ w' = W) := fun W => wrong_any _ 22 W
  have HCM : Hid (chanM m chans = fstE [chE m, if (chN m != chans) then (22 : Int) else 0]) := rfl
  generalize (if (chN m != chans) then (22 : Int) else 0) = yc at *
  generalize chE m = xe at *
  have HFi : Hid (∀ (g : Nat) W, W.heap[g]? = some (.cells #[.int .i64 xe, .int .i64 yc] 24 (0, 0)) → Calls Tryd.prog 33 #[.slice (some ⟨g, 0, none⟩) 2 2] W fun e w' => e = .returned (.int .i64 (chanM m chans)) ∧ w' = W) := fun g W hg => by rw [HCM.out]; exact first_any [xe, yc] _ 2 W (rd_row hg _ rfl) (by show 2 ≤ 100; omega)
  clear HCM
  generalize chanM m chans = C at *
  obtain ⟨w2, hw2⟩ : ∃ w2, (w.alloc (.cells #[.int .i64 rate, .int .i64 chans, .int .i64 depth] 38)).alloc (.cells Hd.zero.cells 23) = w2 := ⟨_, rfl⟩
  have hs2 : w2.heap.size = w.heap.size + 1 + 1 := by rw [← hw2]; simp
  have hp2 : w2.heap[w.heap.size]? = some (.cells #[.int .i64 rate, .int .i64 chans, .int .i64 depth] 38 (0, 0)) := by rw [← hw2]; exact hrow_alloc (heap_alloc_last w _) _
  have hr2 : HdAt w2 (w.heap.size + 1) Hd.zero := by
    have h := heap_alloc_last (w.alloc (.cells #[.int .i64 rate, .int .i64 chans, .int .i64 depth] 38)) (.cells Hd.zero.cells 23)
    rw [World.size_alloc] at h
    rw [← hw2]
    exact h
  have hb2 : Below w.heap.size w w2 := by rw [← hw2]; exact bal (bal (Below.refl _ _) _) _
  have hq1 := cell_of_row w2 _ 0 _ _ _ hp2
  have hq2 := cell_of_row w2 _ 1 _ _ _ hp2
  have hq3 := cell_of_row w2 _ 2 _ _ _ hp2
  simp only [List.getElem?_toArray, List.getElem?_cons_zero, List.getElem?_cons_succ] at hq1 hq2 hq3
  simp only [Hd.zero, Hd.cells] at hw2
  have Hw2 := Lib.hid hw2
  have Hs2 := Lib.hid hs2
  clear hw2 hs2
  go_enter Tryd.func15, Tryd.ntmps15
  go_upto_region 1 with fail
  rw [Hw2.out]
  go_wp2_with fail
  refine (HC.out _).mono ?_
  rintro e w2' ⟨rfl, rfl⟩
  go_wp2_with fail
  refine (HWr.out _).mono ?_
  rintro e w2' ⟨rfl, rfl⟩
  go_wp2_with fail
  refine (HFi.out _ _ (heap_alloc_last _ _)).mono ?_
  rintro e w3 ⟨rfl, rfl⟩
  obtain ⟨w3, hw3⟩ : ∃ w3, w2'.alloc (.cells #[.int .i64 xe, .int .i64 yc] 24) = w3 := ⟨_, rfl⟩
  have hs3 : w3.heap.size = w.heap.size + 1 + 1 + 1 := by rw [← hw3, World.size_alloc, Hs2.out]
  have hb3 : Below w.heap.size w w3 := by rw [← hw3]; exact bal hb2 _
  have hr3 : HdAt w3 (w.heap.size + 1) Hd.zero := by rw [← hw3]; exact hrow_alloc hr2 _
  have hp3 : w3.heap[w.heap.size]? = some (.cells #[.int .i64 rate, .int .i64 chans, .int .i64 depth] 38 (0, 0)) := by rw [← hw3]; exact hrow_alloc hp2 _
  rw [hw3]
  clear hw3 hq1 hq2 hq3 hb2 hr2 hp2 Hs2 HFi HWr HC Hw2
  by_cases hC : C = 0
  case neg =>
    have hE : E = C := by rw [HE.out, if_neg hC]
    have hC' : (C != 0) = true := by rw [bne_iff_ne]; exact hC
    have HF : Hid ((Ending.returned (.tuple #[.agg Hd.zero.cells, .int .i64 C]) : Ending) = .returned (.tuple #[MR.val, .int .i64 E])) := by
      show _ = _
      rw [HMR1.out (by rw [hE]; exact hC), hE]; rfl
    clear HE hE hC HMR0 HMR1
    go_wp2_with (refine wpList_store_row (c := Hd.zero.cells) (c' := Hd.zero.cells) (t := 23) rfl 23 _ _ rfl (w.heap.size + 1) rfl rfl hr3 (by kernel_rfl) rfl (Hd.one _) ?_)
    exact bodyPost_ret (results_row_tmp (cs := Hd.zero.cells) (t := 23) (fr := (0, 0)) (g := w.heap.size + 1) Tryd.results15 _ _ _ rfl rfl (setRow_heap _ (w.heap.size + 1) _ _ 23 (0, 0) hr3) Tryd.underlying23 rfl (by kernel_rfl)) rfl ⟨HF.out, Below.setRow hb3 (Nat.le_succ _) _⟩
  subst hC
  have hE : Hid (E = chkE (mkH V n b m rate depth)) := by show _ = _; rw [HE.out, if_pos rfl]
  clear HE
  have HIb : Hid (∀ W, Below w.heap.size w W → Calls Tryd.prog 43 #[.slice (some ⟨0, 0, none⟩) 16 16, .int .i64 b] W fun e w' => e = .returned (.int .i64 (idxL blkL b)) ∧ w' = W) := fun W hb => Index_any blkL _ 16 b W (rd_tab blkL (HT.out.below hb).blk) (by decide)
  have HIr : Hid (∀ W, Below w.heap.size w W → Calls Tryd.prog 43 #[.slice (some ⟨1, 0, none⟩) 16 16, .int .i64 rate] W fun e w' => e = .returned (.int .i64 (idxL ratL rate)) ∧ w' = W) := fun W hb => Index_any ratL _ 16 rate W (rd_tab ratL (HT.out.below hb).rat) (by decide)
  have HId : Hid (∀ W, Below w.heap.size w W → Calls Tryd.prog 43 #[.slice (some ⟨2, 0, none⟩) 8 8, .int .i64 depth] W fun e w' => e = .returned (.int .i64 (idxL depL depth)) ∧ w' = W) := fun W hb => Index_any depL _ 8 depth W (rd_tab depL (HT.out.below hb).dep) (by decide)
  have Hbc : Hid (bcOf b = if idxL blkL b < 0 then 7 - (bitV (decide (b ≤ 256)) : Int) else idxL blkL b) := rfl
  have Hrc : Hid (rcOf rate = if idxL ratL rate < 0 then rcAt rate 3 else idxL ratL rate) := rfl
  have Hdc : Hid (dcOf depth = max 0 (idxL depL depth)) := rfl
  have Hdc8 : Hid (dcOf depth < 8) := dcOf_lt depth
  have Hmk : Hid (mkH V n b m rate depth = ⟨V, bcOf b, rcOf rate, m, dcOf depth, n, b, if 0 < rcOf rate then rate else 0, depL.getD (dcOf depth).toNat 0⟩) := rfl
  generalize mkH V n b m rate depth = MH at *
  generalize bcOf b = bc at *
  generalize rcOf rate = rc at *
  generalize dcOf depth = dc at *
  generalize idxL blkL b = ib at *
  generalize idxL ratL rate = ir at *
  generalize idxL depL depth = id at *
  have HN := Lib.hid (fun (h : Hd) => Mk.new hs3 hp3 hr3 hb3 h)
  have Hb3 := Lib.hid hb3
  clear hb3 hr3 hp3
  go_upto_if 73 with fail
  refine (HIb.out _ (bal Hb3.out _)).mono ?_
  rintro e w4 ⟨rfl, rfl⟩
  clear HIb
  go_upto_if 73 with fail
  go_cut [] (fun wx => Mk w wx rate chans depth ⟨V, bc, 0, m, 0, n, b, 0, 0⟩)
  case first =>
    by_cases hi : ib < 0
    · have hbc : bc = 7 - (bitV (decide (b ≤ 256)) : Int) := by rw [Hbc.out, if_pos hi]
      go_wp2_with fail
      refine (bit_any _ _).mono ?_
      rintro e w5 ⟨rfl, rfl⟩
      have hq1 : bitV (decide (b ≤ 256)) ≤ 1 := by unfold bitV; split <;> omega
      generalize bitV (decide (b ≤ 256)) = q at *
      go_wp2_with fail
      go_meet
      have hw : wrap64 (7 - (q : Int)) = 7 - q := by unfold wrap64; omega
      try rw [hw]
      rw [hbc]
      exact HN.out ⟨V, 7 - (q : Int), 0, m, 0, n, b, 0, 0⟩
    · have hbc : bc = ib := by rw [Hbc.out, if_neg hi]
      go_wp2_with fail
      go_meet
      rw [hbc]
      exact HN.out ⟨V, ib, 0, m, 0, n, b, 0, 0⟩
  case rest =>
    obtain ⟨w5, hw5⟩ : ∃ w5, wc = w5 := ⟨_, rfl⟩
    rw [hw5] at hcut ⊢
    clear hw5
    have HM := Lib.hid hcut
    clear hcut HN Hbc hs3
    go_upto_region 11 with fail
    have hp0 := HM.out.p0
    refine wp_region_still_tail 5 (by kernel_rfl) (by kernel_rfl) ?_
    simp only [List.take_succ_cons, List.take_zero, List.drop_succ_cons, List.drop_zero]
    repeat still_step
    still_call (HIr.out _ HM.out.b.drew)
    repeat still_step
    refine wpStill_nil ?_
    change wpList _ _ _ _ _ w5.drew
    have HM6 : Hid (Mk w w5.drew rate chans depth ⟨V, bc, 0, m, 0, n, b, 0, 0⟩) := HM.out.below (Below.refl _ _).drew
    clear HM hp0 HIr
    generalize w5.drew = w6 at *
    have hf := HM6.out.fz 2
    have hf2 := HM6.out.h.c 2 (.int .i64 0) rfl
    have HM7 : Hid (Mk w (w6.setCell ⟨w.heap.size + 1 + 1 + 1, 2, none⟩ (.int .i64 ir)) rate chans depth ⟨V, bc, ir, m, 0, n, b, 0, 0⟩) := HM6.out.set 2 _ _ rfl
    have hc2 := HM7.out.h.c 2 (.int .i64 ir) rfl
    go_upto_if 86 with fail
    obtain ⟨w7, hw7⟩ : ∃ w7, w6.setCell ⟨w.heap.size + 1 + 1 + 1, 2, none⟩ (.int .i64 ir) = w7 := ⟨_, rfl⟩
    rw [hw7] at HM7 ⊢
    clear hw7 hc2 hf hf2 HM6
    go_cut [15, 16] (fun _ _ wx => Mk w wx rate chans depth ⟨V, bc, rc, m, 0, n, b, 0, 0⟩)
    case first =>
      by_cases hi : ir < 0
      · have hrc : Hid (rc = rcAt rate 3) := by show _ = _; rw [Hrc.out, if_pos hi]
        have hd : decide (ir < 0) = true := decide_eq_true hi
        rw [hd]
        clear Hrc Hdc hd
        have hf7 := HM7.out.fz 2
        have hc7 := HM7.out.h.c 2 (.int .i64 ir) rfl
        have HM8 : Hid (Mk w (w7.setCell ⟨w.heap.size + 1 + 1 + 1, 2, none⟩ (.int .i64 0)) rate chans depth ⟨V, bc, 0, m, 0, n, b, 0, 0⟩) := HM7.out.set 2 _ _ rfl
        go_upto_region 14 with fail
        clear hf7 hc7 HM7
        generalize w7.setCell ⟨w.heap.size + 1 + 1 + 1, 2, none⟩ (.int .i64 0) = w8 at *
        go_wp2_with fail
        go_loopw [15, 16] (fun c p wr => ∃ k : Nat, k ≤ 3 ∧ c = .int .i64 (14 - (k : Int)) ∧ Hid (Mk w wr rate chans depth ⟨V, bc, rcAt rate k, m, 0, n, b, 0, 0⟩)) (fun c _ _ => (intOf c - 11).toNat)
        case atStart => exact ⟨0, by omega, by simp, HM8⟩
        case round =>
          obtain ⟨k, hk, rfl, HMk⟩ := hrel
          have hp0 := HMk.out.p0
          by_cases hkk : k < 3
          · have hge : decide ((14 - (k : Int)) ≥ 12) = true := decide_eq_true (by omega)
            have Hcn : Hid (rcAt rate (k + 1) = if rFits (14 - (k : Int)) rate then 14 - (k : Int) else rcAt rate k) := rfl
            have HRf := Lib.hid (fun W (hb : Below w.heap.size w W) => rateFits_any ⟨false, 0, 14 - (k : Int), 0, 0, 0, 0, rate, 0⟩ (by show 0 ≤ 14 - (k : Int); omega) (by show 14 - (k : Int) < 16; omega) (by show rate ≤ _; omega) W (HT.out.below hb))
            simp only [Hd.val] at HRf
            generalize rFits (14 - (k : Int)) rate = bb at *
            obtain ⟨c, hc⟩ : ∃ c : Int, 14 - (k : Int) = c := ⟨_, rfl⟩
            rw [hc] at hge HRf Hcn ⊢
            have hc12 : c ≥ 12 := by omega
            have hc15 : c ≤ 14 := by omega
            have Hc := Lib.hid hc
            clear hc
            go_wp2_with fail
            refine (HRf.out _ (bal HMk.out.b _)).mono ?_
            rintro e w9 ⟨rfl, hb9⟩
            have HM9 : Hid (Mk w w9 rate chans depth ⟨V, bc, rcAt rate k, m, 0, n, b, 0, 0⟩) := HMk.out.below (bnext (bal (Below.refl _ _) _) hb9)
            clear HMk hp0 hb9
            have hf9 := HM9.out.fz 2
            have hc9 := HM9.out.h.c 2 (.int .i64 (rcAt rate k)) rfl
            cases bb
            · have hn : rcAt rate (k + 1) = rcAt rate k := Hcn.out
              go_wp2_with fail
              go_roundw
              case rel =>
                refine ⟨k + 1, by omega, ?_, ?_⟩
                · have := Hc.out
                  rw [show ((k + 1 : Nat) : Int) = (k : Int) + 1 from by omega, show c - 1 = 14 - ((k : Int) + 1) from by omega]
                · rw [hn]; exact HM9
              case measure => simp [intOf] <;> omega
            · have hn : rcAt rate (k + 1) = c := Hcn.out
              have HM10 : Hid (Mk w (w9.setCell ⟨w.heap.size + 1 + 1 + 1, 2, none⟩ (.int .i64 c)) rate chans depth ⟨V, bc, c, m, 0, n, b, 0, 0⟩) := HM9.out.set 2 _ _ rfl
              go_wp2_with fail
              go_roundw
              case rel =>
                refine ⟨k + 1, by omega, ?_, ?_⟩
                · have := Hc.out
                  rw [show ((k + 1 : Nat) : Int) = (k : Int) + 1 from by omega, show c - 1 = 14 - ((k : Int) + 1) from by omega]
                · rw [hn]; exact HM10
              case measure => simp [intOf] <;> omega
          · obtain rfl : k = 3 := by omega
            go_wp2_with fail
            go_meet
            rw [hrc.out]
            exact HMk.out
      · have hrc : rc = ir := by rw [Hrc.out, if_neg hi]
        subst hrc
        go_wp2_with fail
        go_meet
        exact HM7.out
    case rest =>
      obtain ⟨w8, hw8⟩ : ∃ w8, wc = w8 := ⟨_, rfl⟩
      rw [hw8] at hcut ⊢
      clear hw8
      have HM := Lib.hid hcut
      clear hcut Hrc HM7
      go_upto_region 20 with fail
      have hp2 := HM.out.p2
      refine wp_region_still_tail 4 (by kernel_rfl) (by kernel_rfl) ?_
      simp only [List.take_succ_cons, List.take_zero, List.drop_succ_cons, List.drop_zero]
      repeat still_step
      still_call (HId.out _ HM.out.b.drew)
      refine wpStill_nil ?_
      change wpList _ _ _ _ _ w8.drew
      have HM9 : Hid (Mk w w8.drew rate chans depth ⟨V, bc, rc, m, 0, n, b, 0, 0⟩) := HM.out.below (Below.refl _ _).drew
      clear HM hp2 HId
      generalize w8.drew = w9 at *
      have hf := HM9.out.fz 4
      have hf2 := HM9.out.h.c 4 (.int .i64 0) rfl
      have hf3 := HM9.out.h.c 2 (.int .i64 rc) rfl
      have HM10 : Hid (Mk w (w9.setCell ⟨w.heap.size + 1 + 1 + 1, 4, none⟩ (.int .i64 dc)) rate chans depth ⟨V, bc, rc, m, dc, n, b, 0, 0⟩) := HM9.out.set 4 _ _ rfl
      have hmax : (if 0 < id then id else (0 : Int)) = dc := by rw [Hdc.out]; split <;> omega
      have hdc0 : 0 ≤ dc := by rw [Hdc.out]; omega
      go_upto_if 108 with fail
      obtain ⟨w10, hw10⟩ : ∃ w10, w9.setCell ⟨w.heap.size + 1 + 1 + 1, 4, none⟩ (.int .i64 dc) = w10 := ⟨_, rfl⟩
      try rw [hmax]
      rw [hw10] at HM10 ⊢
      clear hw10 hf hf2 hf3 hmax HM9 Hdc
      have hp0 := HM10.out.p0
      go_cut [] (fun wx => Mk w wx rate chans depth ⟨V, bc, rc, m, dc, n, b, if 0 < rc then rate else 0, 0⟩)
      case first =>
        by_cases hr : 0 < rc
        · have hr' : rc > 0 := hr
          have hf := HM10.out.fz 7
          have hf2 := HM10.out.h.c 7 (.int .i64 0) rfl
          have hrw : (if 0 < rc then rate else 0) = rate := if_pos hr
          go_wp2_with fail
          go_meet
          rw [hrw]
          exact HM10.out.set 7 _ _ rfl
        · have hr' : ¬ rc > 0 := hr
          have hrw : (if 0 < rc then rate else 0) = 0 := if_neg hr
          go_wp2_with fail
          go_meet
          rw [hrw]
          exact HM10.out
      case rest =>
        obtain ⟨w11, hw11⟩ : ∃ w11, wc = w11 := ⟨_, rfl⟩
        rw [hw11] at hcut ⊢
        clear hw11
        have HM := Lib.hid hcut
        have hrr : (if 0 < rc then rate else 0) ≤ 9223372036854775807 := by split <;> omega
        generalize (if 0 < rc then rate else 0) = rr at *
        clear hcut HM10 hp0
        obtain ⟨dn, rfl⟩ : ∃ dn : Nat, dc = dn := ⟨dc.toNat, by omega⟩
        rw [Int.toNat_natCast] at Hmk
        have hdn : (dn : Int) < 8 := Hdc8.out
        have hdd := (HT.out.below HM.out.b).dep dn (by omega)
        generalize depL.getD dn 0 = dd at *
        have hf := HM.out.fz 8
        have hf2 := HM.out.h.c 8 (.int .i64 0) rfl
        have hf3 := HM.out.h.c 4 (.int .i64 dn) rfl
        have HM12 : Hid (Mk w (w11.setCell ⟨w.heap.size + 1 + 1 + 1, 8, none⟩ (.int .i64 dd)) rate chans depth MH) := by rw [Hmk.out]; exact HM.out.set 8 _ _ rfl
        have HCk := Lib.hid (fun W (hb : Below w.heap.size w W) => Check_any MH (by rw [Hmk.out]; exact hrr) W (HT.out.below hb))
        rw [← hE.out] at HCk
        go_upto_region 24 with fail
        clear hf hf2 hf3 hdd HM hdn
        generalize w11.setCell ⟨w.heap.size + 1 + 1 + 1, 8, none⟩ (.int .i64 dd) = w12 at *
        have HMR1' : Hid (E ≠ 0 → MR = Hd.zero) := HMR1.out
        have HMR0' : Hid (E = 0 → MR = MH) := HMR0.out
        clear HMR0 HMR1 Hmk hE HT Hdc8 Hb3
        go_wp2_with (refine wpList_load_row rfl 23 _ rfl (w.heap.size + 1 + 1 + 1) rfl 23 MH.cells (0, 0) _ HM12.out.h Tryd.underlying23 rfl (by kernel_rfl) ?_)
        refine (HCk.out _ HM12.out.b).mono ?_
        rintro e w13 ⟨rfl, hb13⟩
        have HM13 : Hid (Mk w w13 rate chans depth MH) := HM12.out.below hb13
        clear HM12 hb13 HCk
        by_cases hz : E = 0
        · subst hz
          obtain rfl := HMR0'.out rfl
          go_wp2_with (first | (refine wpList_load_row rfl 23 _ rfl (w.heap.size + 1 + 1 + 1) rfl 23 MR.cells (0, 0) _ HM13.out.h Tryd.underlying23 rfl (by kernel_rfl) ?_) | (refine wpList_store_row (c := Hd.zero.cells) (c' := MR.cells) (t := 23) rfl 23 _ _ rfl (w.heap.size + 1) rfl rfl HM13.out.r (by kernel_rfl) rfl (Hd.one _) ?_))
          exact bodyPost_ret (results_row_tmp (cs := MR.cells) (t := 23) (fr := (0, 0)) (g := w.heap.size + 1) Tryd.results15 _ _ _ rfl rfl (setRow_heap _ (w.heap.size + 1) _ _ 23 (0, 0) HM13.out.r) Tryd.underlying23 rfl (by kernel_rfl)) rfl ⟨rfl, Below.setRow HM13.out.b (Nat.le_succ _) _⟩
        · obtain rfl := HMR1'.out hz
          have hz' : (E != 0) = true := by rw [bne_iff_ne]; exact hz
          clear hz
          go_wp2_with (refine wpList_store_row (c := Hd.zero.cells) (c' := Hd.zero.cells) (t := 23) rfl 23 _ _ rfl (w.heap.size + 1) rfl rfl HM13.out.r (by kernel_rfl) rfl (Hd.one _) ?_)
          exact bodyPost_ret (results_row_tmp (cs := Hd.zero.cells) (t := 23) (fr := (0, 0)) (g := w.heap.size + 1) Tryd.results15 _ _ _ rfl rfl (setRow_heap _ (w.heap.size + 1) _ _ 23 (0, 0) HM13.out.r) Tryd.underlying23 rfl (by kernel_rfl)) rfl ⟨rfl, Below.setRow HM13.out.b (Nat.le_succ _) _⟩
end Go.Proofs.YtgohfbfdhdepnaaDoor

namespace Go.Proofs.YtgohfbfdhdepnaaDoor
open Go.RowKit

/-- What appends onto a slice turn. -/
structure FrL (v v' : Value) (w w' : World) : Prop where
  fr : Fr (fun k => v.ownBlock = some k) w w'
  nxt : v'.ownBlock = v.ownBlock ∨ ∃ k, v'.ownBlock = some k ∧ w.heap.size ≤ k
theorem FrL.refl (v : Value) (w : World) : FrL v v w w := ⟨Fr.refl _ _, .inl rfl⟩
theorem FrL.of {v : Value} {w w' : World} (h : Below w.heap.size w w') : FrL v v w w' := ⟨Fr.of h, .inl rfl⟩
theorem FrL.trans {v v' v2 : Value} {a b c : World} (h : FrL v v' a b) (k : FrL v' v2 b c) : FrL v v2 a c := by
  refine ⟨⟨k.fr.os.trans h.fr.os, k.fr.tape.trans h.fr.tape, k.fr.output.trans h.fr.output, Nat.le_trans h.fr.size k.fr.size, fun i hi hs => ?_⟩, ?_⟩
  · refine (k.fr.block i (Nat.lt_of_lt_of_le hi h.fr.size) ?_).trans (h.fr.block i hi hs)
    intro h1
    rcases h.nxt with e | ⟨g, e, hg⟩
    · exact hs (e.symm.trans h1)
    · rw [e] at h1; injection h1 with h1; omega
  · rcases k.nxt with e | ⟨g, e, hg⟩
    · rcases h.nxt with e2 | ⟨g, e2, hg⟩
      · exact .inl (e.trans e2)
      · exact .inr ⟨g, e.trans e2, hg⟩
    · exact .inr ⟨g, e, Nat.le_trans h.fr.size hg⟩
theorem FrL.next {v v' : Value} {a b c : World} (h : FrL v v' a b) (k : Below b.heap.size b c) : FrL v v' a c := h.trans (FrL.of k)
theorem FrL.below {v v' : Value} {w a b : World} {B s n : Nat} {e : TypeId} {xs : List Value} (h : FrL v v' a b) (hw : Below w.heap.size w a) (ho : a.ownsRow B e s v n xs) (hB : w.heap.size ≤ B) : Below w.heap.size w b :=
  h.fr.below hw fun k hk => Nat.le_trans hB (ho.lt k hk).1
/-- A row of one's own, put aside: another type's row is not it. -/
theorem own_ne {w : World} {B B' s s' n n' : Nat} {e e' : TypeId} {v v' : Value} {xs xs' : List Value} (h : w.ownsRow B e s v n xs) (h' : w.ownsRow B' e' s' v' n' xs') (hne : e ≠ e') : ∀ k, v.ownBlock = some k → ¬ v'.ownBlock = some k := by
  intro k hk hk'
  rcases h.2 with ⟨rfl, -⟩ | ⟨g, cap, cur, rfl, hb, hg, -⟩
  · cases hk
  · have e : g = k := by injection hk
    subst e
    rcases h'.2 with ⟨rfl, -⟩ | ⟨g2, cap2, cur2, rfl, hb2, hg2, -⟩
    · cases hk'
    · have e2 : g2 = g := by injection hk'
      subst e2
      rw [hg2] at hg
      simp at hg
      exact hne hg.2.symm
theorem own_fr {S : Nat → Prop} {w w' : World} {B n s : Nat} {e : TypeId} {v : Value} {xs : List Value} (ho : w.ownsRow B e s v n xs) (f : Fr S w w') (hs : ∀ k, v.ownBlock = some k → ¬ S k) : w'.ownsRow B e s v n xs := by
  refine ⟨ho.1, ?_⟩
  rcases ho.2 with e | ⟨g, cap, cur, rfl, hb, hg, hn⟩
  · exact .inl e
  · exact .inr ⟨g, cap, cur, rfl, hb, f.row hg (hs g rfl), hn⟩
/-- A row of numbers is not a Writer's. -/
theorem Wtr.notRow {w : World} {R : Nat} {bs : List Nat} {u : Value} (h : Wtr w R bs u) {B s n : Nat} {e : TypeId} {v : Value} {xs : List Value} (ho : w.ownsRow B e s v n xs) (h1 : e ≠ 87) (h2 : e ≠ 5) : ∀ k, WS R u k → ¬ v.ownBlock = some k := by
  intro k hk hv
  rcases hk with rfl | hk
  · rcases ho.2 with ⟨rfl, -⟩ | ⟨g, cap, cur, rfl, hb, hg, -⟩
    · cases hv
    · have e : g = k := by injection hv
      subst e
      rw [h.row] at hg
      simp at hg
      exact h1 hg.2.symm
  · exact own_ne ho h.own h2 k hv hk
theorem Wtr.keepRow {w w' : World} {R : Nat} {bs : List Nat} {u : Value} (h : Wtr w R bs u) {B s n : Nat} {e : TypeId} {v v' : Value} {xs : List Value} (ho : w.ownsRow B e s v n xs) (h1 : e ≠ 87) (h2 : e ≠ 5) (f : FrL v v' w w') : Wtr w' R bs u :=
  h.keep f.fr (h.notRow ho h1 h2)
theorem own_keepWtr {w w' : World} {R : Nat} {bs : List Nat} {u u' : Value} (h : Wtr w R bs u) {B s n : Nat} {e : TypeId} {v : Value} {xs : List Value} (ho : w.ownsRow B e s v n xs) (h1 : e ≠ 87) (h2 : e ≠ 5) (f : FrW R u u' w w') : w'.ownsRow B e s v n xs :=
  own_fr ho f.fr (fun k hv hk => h.notRow ho h1 h2 k hk hv)

/-- append of a slice (nil, empty or not) onto a row of the call's own, with what turns. -/
theorem appNg {P : Program} {W : World} {ops : Array Oper} {rest : List Oper} {o : Oper} {a : Act} {Q : Exit → Act → World → Prop} (hgd : o.guard = none) (s x : Operand) (t : TypeId)
    (ho : o.op = .call { callee := .builtin .append, args := #[s, x], argTypes := #[t, t] })
    {base : Nat} {e : TypeId} {z : Value} {bytes : Nat} (ht : P.underlying t = some (.slice e)) (hi : (P.info? e).map (fun i => (i.zero, i.size, i.bytes)) = some (some z, 1, bytes)) (hzs : z.cells.size = 1)
    {v : Value} {n : Nat} {xs : List Value} (hs : a.eval s = v) (hown : W.ownsRow base e 1 v n xs) (hbW : base ≤ W.heap.size)
    {A : Option Addr} {m c : Nat} {ys : List Value} (hx : a.eval x = .slice A m c) (hr : Rd W A ys) (hl : ys.length = m) (hnil : A = none → c = 0) (h1 : ∀ u ∈ ys, u.oneCell' = true)
    (hbytes : (n + m) * bytes ≤ 140737488355328) (h63 : n + m ≤ maxLen)
    (h : ∀ v' w1, w1.ownsRow base e 1 v' (n + m) (xs ++ ys) → FrL v v' W w1 → wpList P ops Q rest (a.put o.dst v') w1) :
    wpList P ops Q (o :: rest) a W := by
  obtain ⟨i, hi, hz0, hz1, hz2⟩ := info_parts hi
  cases A with
  | none =>
    have hm : ys = [] := by
      cases ys with
      | nil => rfl
      | cons y l => obtain ⟨_, _, e, _⟩ := hr 0 y rfl; cases e
    subst hm
    obtain rfl : m = 0 := by simpa using hl.symm
    rw [hnil rfl] at hx
    refine wpList_append_own_none hgd s x t ho base e i 1 ht hi v n xs hs hown hx ?_
    exact h v W (by simpa using hown) (FrL.refl _ _)
  | some ad =>
    refine wpList_append_own_at W hgd s x t ho base e i z 1 bytes ht hi hz0 hz1 hz2 hzs (by decide) v n xs hs hown ad m c ys hx (by omega) ?_ h1 h63 hbytes hbW ?_
    · intro j u hu
      obtain ⟨b, o, e, hc⟩ := hr j u hu
      injection e with e
      subst e
      rw [show (⟨b, o, none⟩ : Addr).add j = ⟨b, o + j, none⟩ from by unfold Addr.add; split <;> simp_all]
      exact hc
    · intro v' w1 hown1 g _ hat
      refine h v' w1 hown1 ⟨⟨g.os, g.tape, g.output, g.size, fun k hk hs => g.block k hk (fun e => hs e.symm)⟩, ?_⟩
      rcases hat with e | e
      · exact .inl e
      · exact .inr ⟨_, e, Nat.le_refl _⟩
/-- .. of one element, with what turns. -/
theorem frL_grown {W w1 : World} {v v' : Value} (g : W.grownBy w1 v.ownBlock) (hat : v'.ownBlock = v.ownBlock ∨ ∃ k, v'.ownBlock = some k ∧ W.heap.size ≤ k) : FrL v v' W w1 :=
  ⟨⟨g.os, g.tape, g.output, g.size, fun k hk hs => g.block k hk (fun e => hs e.symm)⟩, hat⟩
end Go.Proofs.YtgohfbfdhdepnaaDoor

namespace Go.Proofs.YtgohfbfdhdepnaaDoor
open Go.RowKit


def zb (n : Nat) : List Nat := List.replicate n 0
theorem zb_length (n : Nat) : (zb n).length = n := by simp [zb]
theorem vb_zero (n : Nat) : vb 0 n = zb n := by
  refine List.ext_getElem (by rw [vb_length, zb_length]) fun i h1 h2 => ?_
  simp [vb, zb]
theorem zb_add (a b : Nat) : zb a ++ zb b = zb (a + b) := by simp [zb, List.replicate_append_replicate]

def uwE (n : Int) : Int := if n < 0 ∨ 65536 < n then 10 else 0
def uwB (bs : List Nat) (n : Int) : List Nat := if uwE n = 0 then bs ++ (zb n.toNat ++ [1]) else bs


theorem i64_low (v : Int) (n : Nat) (hn : n ≤ 48) : bits .and .i64 v ((2 ^ n - 1 : Nat) : Int) = v % 2 ^ n := by
  have h48 : (2 : Nat) ^ n ≤ 2 ^ 48 := Nat.pow_le_pow_right (by omega) hn
  have h48' : (2 : Nat) ^ 48 = 281474976710656 := by decide
  have hp : 0 < (2 : Nat) ^ n := Nat.pow_pos (by omega)
  show IntKind.i64.wrap ((BitVec.ofInt 64 v &&& BitVec.ofInt 64 ((2 ^ n - 1 : Nat) : Int)).toNat : Int) = _
  have e2 : (BitVec.ofInt 64 ((2 ^ n - 1 : Nat) : Int)).toNat = 2 ^ n - 1 := by
    rw [BitVec.ofInt_natCast, BitVec.toNat_ofNat]
    exact Nat.mod_eq_of_lt (Nat.lt_of_le_of_lt (Nat.sub_le _ _) (Nat.lt_of_le_of_lt h48 (by decide)))
  rw [BitVec.toNat_and, e2, Nat.and_two_pow_sub_one_eq_mod, BitVec.toNat_ofInt]
  have hd : ((2 ^ n : Nat) : Int) ∣ ((2 ^ 64 : Nat) : Int) := Int.natCast_dvd_natCast.2 (Nat.pow_dvd_pow 2 (by omega))
  have hnn : 0 ≤ v % ((2 ^ 64 : Nat) : Int) := Int.emod_nonneg _ (by decide)
  have e3 : (((v % ((2 ^ 64 : Nat) : Int)).toNat % 2 ^ n : Nat) : Int) = v % 2 ^ n := by
    rw [Int.natCast_emod, Int.toNat_of_nonneg hnn, Int.emod_emod_of_dvd _ hd]
    simp
  have hlt : (v % ((2 ^ 64 : Nat) : Int)).toNat % 2 ^ n < 9223372036854775808 := Nat.lt_of_lt_of_le (Nat.mod_lt _ hp) (Nat.le_trans h48 (by decide))
  rw [wrap_i64_nat _ hlt, e3]

theorem sw_facts (v : Int) (k : Nat) (hk : k ≤ 47) : ∃ K1 K M z : Nat, (2 : Int) ^ k = K1 ∧ (2 : Int) ^ (k + 1) = K ∧ (1 ≤ K1 ∧ K1 ≤ 281474976710656 ∧ 1 ≤ K ∧ K ≤ 281474976710656) ∧ K - 1 = M ∧ bits .and .i64 v (M : Int) = z ∧ v % 2 ^ (k + 1) = z ∧ z < 2 ^ (k + 1) := by
  have hpk := pow48 k (by omega)
  have hpq := pow48 (k + 1) (by omega)
  have e1 : ((2 : Int) ^ k) = ((2 ^ k : Nat) : Int) := by simp
  have e2 : ((2 : Int) ^ (k + 1)) = ((2 ^ (k + 1) : Nat) : Int) := by simp
  have hz := i64_low v (k + 1) (by omega)
  have hz0 : 0 ≤ v % 2 ^ (k + 1) := Int.emod_nonneg _ (by omega)
  have hz1 : v % 2 ^ (k + 1) < 2 ^ (k + 1) := Int.emod_lt_of_pos _ (by omega)
  have hz2 : v % 2 ^ (k + 1) = ((v % 2 ^ (k + 1)).toNat : Int) := (Int.toNat_of_nonneg hz0).symm
  refine ⟨2 ^ k, 2 ^ (k + 1), 2 ^ (k + 1) - 1, (v % 2 ^ (k + 1)).toNat, e1, e2, ?_, rfl, by rw [hz]; exact hz2, hz2, ?_⟩
  · rw [e1] at hpk
    rw [e2] at hpq
    exact ⟨Int.ofNat_le.1 hpk.1, Int.ofNat_le.1 hpk.2, Int.ofNat_le.1 hpq.1, Int.ofNat_le.1 hpq.2⟩
  · rw [hz2, e2] at hz1
    exact Int.ofNat_lt.1 hz1
theorem wrap_neg_i (K : Nat) (h : K ≤ 281474976710656) : IntKind.i64.wrap (-(K : Int)) = -K := by rw [IntKind.wrap_i64]; omega
theorem wrap_neg (K : Nat) (h : K ≤ 281474976710656) : wrap64 (-(K : Int)) = -K := by unfold wrap64; omega


def swE (n v : Int) : Int := if n < 0 ∨ 48 < n then 1 else if (n = 0 ∧ v ≠ 0) ∨ (0 < n ∧ (v < -2 ^ (n.toNat - 1) ∨ 2 ^ (n.toNat - 1) ≤ v)) then 10 else 0
def swB (bs : List Nat) (n v : Int) : List Nat := if swE n v = 0 then bs ++ vb (v % 2 ^ n.toNat).toNat n.toNat else bs


def nv8 (l : List Nat) : List Value := l.map fun (x : Nat) => Value.int .u8 (x : Int)
set_option maxHeartbeats 800000 in
theorem bytesN_any (l m : List Nat) (A B : Option Addr) (c d : Nat) (w : World) (hl : Rd w A (nv8 l)) (hm : Rd w B (nv8 m)) (h63 : l.length < 9223372036854775807) :
    Calls Tryd.prog 13 #[.slice A l.length c, .slice B m.length d] w fun e w' => e = .returned (.bool (decide (l = m))) ∧ Below w.heap.size w w' := by
  have Hl := Lib.hid hl; clear hl
  have Hm := Lib.hid hm; clear hm
  by_cases hlen : l.length = m.length
  · have hx : ((l.length : Int) != (m.length : Int)) = false := by rw [bne_eq_false_iff_eq]; omega
    have Hlen := Lib.hid hlen
    clear hlen
    go_enter Tryd.func13, Tryd.ntmps13
    go_wp2_with fail
    go_loopw [5] (fun i wr => ∃ k : Nat, k ≤ l.length ∧ i = .int .i64 k ∧ Below w.heap.size w wr ∧ Hid (l.take k = m.take k)) (fun i _ => l.length - (intOf i).toNat)
    case atStart => exact ⟨0, by omega, rfl, Below.refl _ _, by simp [Hid]⟩
    case round =>
      obtain ⟨k, hk, rfl, hb, Ht⟩ := hrel
      by_cases hkk : k < l.length
      · have hkm : k < m.length := by have := Hlen.out; omega
        obtain ⟨b1, o1, rfl, hc1⟩ := (Hl.out.below hb) k (.int .u8 l[k]) (by simp [nv8, hkk])
        obtain ⟨b2, o2, rfl, hc2⟩ := (Hm.out.below hb) k (.int .u8 m[k]) (by simp [nv8, hkm])
        have hi0 : (0 : Int) ≤ (k : Int) := by omega
        have hi1 : (k : Int) < l.length := by omega
        have hi2 : (k : Int) < m.length := by omega
        have Hs : Hid (l[k] = m[k] → l.take (k + 1) = m.take (k + 1)) := by
          intro h
          rw [List.take_succ_eq_append_getElem hkk, List.take_succ_eq_append_getElem hkm, Ht.out, h]
        have Hn : Hid (l[k] ≠ m[k] → l ≠ m) := by
          intro h e; subst e; exact h rfl
        generalize l[k] = x at *
        generalize m[k] = y at *
        by_cases hxy : x = y
        · have Hxy := Lib.hid hxy
          have hq : ((x : Int) != (y : Int)) = false := by rw [bne_eq_false_iff_eq]; omega
          clear hxy
          go_wp2_with fail
          go_quiet (fail)
          go_wp2_with fail
          go_roundw
          case rel => exact ⟨k + 1, by omega, by go_num, by repeat (first | exact Below.refl _ _ | assumption | refine below_drewN ?_ _ | refine Below.drew ?_ | refine Below.alloc ?_ (Nat.le_refl _) _ | refine bal ?_ _ | refine bnext ?_ (by assumption)), Hs.out Hxy.out⟩
          case measure => simp [intOf] <;> omega
        · have Hxy := Lib.hid hxy
          have hq : ((x : Int) != (y : Int)) = true := by rw [bne_iff_ne]; omega
          clear hxy
          go_wp2_with fail
          go_quiet (fail)
          go_wp2_with fail
          go_ret
          exact ⟨ret_bool (decide_eq_false (Hn.out Hxy.out)).symm, by repeat (first | exact Below.refl _ _ | assumption | refine below_drewN ?_ _ | refine Below.drew ?_ | refine Below.alloc ?_ (Nat.le_refl _) _ | refine bal ?_ _ | refine bnext ?_ (by assumption))⟩
      · obtain rfl : k = l.length := by omega
        have He : Hid (l = m) := by
          have h := Ht.out
          rw [List.take_of_length_le (Nat.le_refl _), List.take_of_length_le (by rw [Hlen.out]; exact Nat.le_refl _)] at h
          exact h
        go_wp2_with fail
        go_ret
        exact ⟨ret_bool (decide_eq_true He.out).symm, hb⟩
  · have hx : ((l.length : Int) != (m.length : Int)) = true := by rw [bne_iff_ne]; omega
    have Hn : Hid (l ≠ m) := fun e => hlen (by rw [e])
    clear hlen
    go_enter Tryd.func13, Tryd.ntmps13
    go_wp2_with fail
    go_ret
    exact ⟨ret_bool (decide_eq_false Hn.out).symm, Below.refl _ _⟩
theorem bv_nv8 (l : List UInt8) : bv l = nv8 (l.map (·.toNat)) := by simp [bv, nv8]
theorem map_toNat_inj {l m : List UInt8} (h : l.map (·.toNat) = m.map (·.toNat)) : l = m := by
  induction l generalizing m with
  | nil => cases m with
    | nil => rfl
    | cons y m => simp at h
  | cons x l ih => cases m with
    | nil => simp at h
    | cons y m =>
      simp only [List.map_cons, List.cons.injEq] at h
      rw [UInt8.toNat_inj.1 h.1, ih h.2]
theorem bytes_any (l m : List UInt8) (A B : Option Addr) (c d : Nat) (w : World) (hl : Rd w A (bv l)) (hm : Rd w B (bv m)) (h63 : l.length < 9223372036854775807) :
    Calls Tryd.prog 13 #[.slice A l.length c, .slice B m.length d] w fun e w' => e = .returned (.bool (decide (l = m))) ∧ Below w.heap.size w w' := by
  rw [bv_nv8] at hl hm
  have h := bytesN_any (l.map (·.toNat)) (m.map (·.toNat)) A B c d w hl hm (by simpa using h63)
  rw [List.length_map, List.length_map, show decide (l.map (·.toNat) = m.map (·.toNat)) = decide (l = m) from decide_eq_decide.2 ⟨map_toNat_inj, fun e => by rw [e]⟩] at h
  exact h

theorem Take_l (R t t' : Nat) (A : Option Addr) (l : List UInt8) (c : Nat) (n v : Int) (w : World) (hr : Rdr w R t A l c) (h1 : tkE n (8 * l.length - t) = 0) (h2 : (tkV l t n : Int) = v) (h3 : tkT l t n = t') :
    Calls Tryd.prog 62 #[.pointer (some ⟨R, 0, none⟩), .int .i64 n] w fun e w' => e = .returned (.tuple #[.int .i64 v, .int .i64 0]) ∧ Rdr w' R t' A l c ∧ Fr (· = R) w w' := by
  have h := Take_any R t A l c n w hr
  rw [h1, h2, h3] at h
  exact h


/-- Bits as values. -/
def iv8 (l : List Nat) : List Value := l.map fun (x : Nat) => Value.int .i64 (x : Int)
theorem iv8_append (l m : List Nat) : iv8 (l ++ m) = iv8 l ++ iv8 m := by simp [iv8]
theorem iv8_length (l : List Nat) : (iv8 l).length = l.length := by simp [iv8]
/-- The bits of bytes. -/
def bitL (l : List UInt8) (m : Nat) : List Nat := (List.range m).map (bitAt l)
theorem bitL_length (l : List UInt8) (m : Nat) : (bitL l m).length = m := by simp [bitL]
theorem bitL_succ (l : List UInt8) (m : Nat) : bitL l (m + 1) = bitL l m ++ [bitAt l m] := by simp [bitL, List.range_succ]
theorem info_int1 : (Tryd.prog.info? 3).map (fun i => (i.zero, i.size, i.bytes)) = some (some (.int .i64 0), 1, 8) := by kernel_rfl

set_option maxRecDepth 100000 in
set_option maxHeartbeats 2000000 in
theorem RBits_any (l : List UInt8) (A : Option Addr) (c : Nat) (w : World) (hr : Rd w A (bv l)) (hl : l.length ≤ 1000000) :
    Calls Tryd.prog 39 #[.slice A l.length c] w fun e w' => ∃ v, e = .returned v ∧ Hid (w'.ownsRow w.heap.size 3 1 v (8 * l.length) (iv8 (bitL l (8 * l.length)))) ∧ Below w.heap.size w w' := by
  have Hr := Lib.hid hr
  clear hr
  go_enter Tryd.func39, Tryd.ntmps39
  go_wp2_with fail
  go_loopw [3, 4] (fun v iv wr => ∃ i : Nat, i ≤ l.length ∧ iv = .int .i64 (i : Int) ∧ Hid (wr.ownsRow w.heap.size 3 1 v (8 * i) (iv8 (bitL l (8 * i)))) ∧ Hid (Below w.heap.size w wr)) (fun _ iv _ => l.length - (intOf iv).toNat)
  case atStart => exact ⟨0, by omega, rfl, World.ownsRow_nil w w.heap.size _ 1, Below.refl _ _⟩
  case round =>
    obtain ⟨i, hi, rfl, Hv, Hb⟩ := hrel
    by_cases hii : i < l.length
    · have hx := (l.getD i 0).toNat_lt
      have HRd := Lib.hid (fun (W : World) (hW : Below w.heap.size w W) => (Hr.out.below hW) i (.int .u8 (l.getD i 0).toNat) (by rw [bv_get l i hii]; simp [List.getD_eq_getElem?_getD, List.getElem?_eq_getElem hii]))
      have HBt : Hid (∀ q, q < 8 → bitAt l (8 * i + q) = (l.getD i 0).toNat / 2 ^ (7 - q) % 2) := by
        intro q hq
        rw [bitAt, show (8 * i + q) / 8 = i from by omega, show (8 * i + q) % 8 = q from by omega]
      generalize (l.getD i 0).toNat = x at *
      go_wp2_with fail
      go_loopw [3, 5] (fun v kv wr => ∃ q m : Nat, q ≤ 8 ∧ kv = .int .i64 (7 - (q : Int)) ∧ Hid (8 * i + q = m) ∧ Hid (wr.ownsRow w.heap.size 3 1 v m (iv8 (bitL l m))) ∧ Hid (Below w.heap.size w wr)) (fun _ kv _ => (intOf kv + 1).toNat)
      case atStart => exact ⟨0, 8 * i, by omega, rfl, rfl, Hv.out, Hb.out⟩
      case round =>
        clear Hv Hb
        obtain ⟨q, m, hq, rfl, Hm, Hv, Hb⟩ := hrel
        by_cases hqq : q < 8
        · obtain ⟨b, o, rfl, hc⟩ := HRd.out _ Hb.out
          obtain ⟨r, hr⟩ : ∃ r, 7 - q = r := ⟨_, rfl⟩
          have hr8 : (7 : Int) - q = (r : Int) := by omega
          have Hbit := Lib.hid (HBt.out q hqq)
          rw [hr, Hm.out] at Hbit
          have Hs : Hid (iv8 (bitL l (m + 1)) = iv8 (bitL l m) ++ [.int .i64 (bitAt l m : Nat)]) := by show _ = _; rw [bitL_succ, iv8_append]; rfl
          generalize bitAt l m = B at *
          have h6 : x / 2 ^ r ≤ x := Nat.div_le_self _ _
          have e2 : ((x : Int) / 2 ^ r) = ((x / 2 ^ r : Nat) : Int) := by simp
          have ha := i64_and_nat (x / 2 ^ r) 1 (by omega) (by omega)
          rw [Nat.and_one_is_mod, ← Hbit.out] at ha
          have ha1 : bits .and .i64 ((x : Int) / 2 ^ r) 1 = (B : Int) := by rw [e2]; exact ha
          have ha2 : bits .and .i64 (wrap64 ((x : Int) / 2 ^ r)) 1 = (B : Int) := by rw [e2, wrap_nat _ (by omega)]; exact ha
          have hm9 : m ≤ 8000000 := by rw [← Hm.out]; omega
          have hbs := Hb.out.size
          have hmin : min r 64 = r := Nat.min_eq_left (by omega)
          have hr0 : (0 : Int) ≤ r := by omega
          have hwr : IntKind.i64.wrap ((r : Int) - 1) = (r : Int) - 1 := by rw [IntKind.wrap_i64]; omega
          clear h6 e2 ha
          go_wp2_with (at_builtin; refine app1 (w0 := w) rfl _ _ 65 rfl Tryd.underlying65 info_int1 rfl (by decide) rfl Hv.out (Nat.le_refl _) hbs Hb.out rfl rfl (one_int _ _) (by omega) (by unfold maxLen; omega) ?_; intro v1 w6 own1 hb6 hs6; have Hown1 := Lib.hid own1; have Hb6 := Lib.hid hb6; clear own1 hb6)
          go_roundw
          case rel => exact ⟨q + 1, m + 1, by omega, by first | (congr 1; omega) | (simp; omega), by show _ = _; rw [← Hm.out]; rfl, by rw [Hs.out]; exact Hown1.out, Hb6.out⟩
          case measure => simp [intOf] <;> omega
        · obtain rfl : q = 8 := by omega
          have hm8 : 8 * (i + 1) = m := by have := Hm.out; omega
          go_wp2_with fail
          go_roundw
          case rel => exact ⟨i + 1, by omega, by go_num, by rw [hm8]; exact Hv.out, Hb.out⟩
          case measure => simp [intOf] <;> omega
    · obtain rfl : i = l.length := by omega
      go_wp2_with fail
      go_ret
      exact ⟨_, rfl, Hv.out, Hb.out⟩


theorem sg_bit {f : Nat → Nat} (hf : ∀ i, f i < 2) (t n i : Nat) (hi : i < n) : sg f t n / 2 ^ (n - 1 - i) % 2 = f (t + i) := by
  have h := sg_add f t (i + 1) (n - 1 - i)
  rw [show i + 1 + (n - 1 - i) = n from by omega] at h
  have hlt := sg_lt hf (t + (i + 1)) (n - 1 - i)
  rw [h, Nat.mul_comm, Nat.mul_add_div (Nat.pow_pos (by omega)), Nat.div_eq_of_lt hlt, Nat.add_zero, sg]
  have := hf (t + i)
  omega
theorem vb_sg {f : Nat → Nat} (hf : ∀ i, f i < 2) (t n : Nat) : vb (sg f t n) n = (List.range n).map fun i => f (t + i) := by
  unfold vb
  refine List.map_congr_left fun i hi => ?_
  exact sg_bit hf t n i (List.mem_range.1 hi)
theorem bitL_add (l : List UInt8) (t n : Nat) : bitL l t ++ (List.range n).map (fun i => bitAt l (t + i)) = bitL l (t + n) := by
  unfold bitL
  rw [List.range_add, List.map_append, List.map_map]; rfl
theorem bitL_lt (l : List UInt8) (t : Nat) : ∀ b ∈ bitL l t, b < 2 := by
  intro b hb
  simp only [bitL, List.mem_map] at hb
  obtain ⟨i, -, rfl⟩ := hb
  exact bitAt_lt l i
theorem bitL_get (l : List UInt8) (t i : Nat) (h : i < t) : (bitL l t).getD i 0 = bitAt l i := by
  rw [List.getD_eq_getElem?_getD, List.getElem?_eq_getElem (by rw [bitL_length]; exact h)]
  simp [bitL]
/-- The bytes of the bits of bytes. -/
theorem pkL_bitL (l : List UInt8) : pkL (bitL l (8 * l.length)) = l := by
  refine List.ext_getElem (by rw [pkL_length, bitL_length]; omega) fun i h1 h2 => ?_
  have e : byteAt (bitL l (8 * l.length)) i = (l[i]).toNat := by
    have h3 : byteAt (bitL l (8 * l.length)) i = sg (bitAt l) (8 * i) 8 := sg_congr _ _ fun j hj => bitL_get l _ _ (by omega)
    have h4 := sg_byte l (8 * i) 8 (by omega)
    rw [h3, h4, show 8 * i / 8 = i from by omega, show 8 - 8 * i % 8 - 8 = 0 from by omega, Nat.pow_zero, Nat.div_one, List.getD_eq_getElem?_getD, List.getElem?_eq_getElem h2]
    exact Nat.mod_eq_of_lt (l[i]).toNat_lt
  simp only [pkL, List.getElem_map, List.getElem_range]
  rw [e]
  simp
/-- The bits of the bytes of bits. -/
theorem bitAt_pkL {bs : List Nat} (h : ∀ b ∈ bs, b < 2) (t : Nat) : bitAt (pkL bs) t = bs.getD t 0 := by
  have hf : ∀ i, (fun t => bs.getD t 0) i < 2 := fun i => getD_lt h i
  rcases Nat.lt_or_ge (t / 8) ((bs.length + 7) / 8) with h1 | h1
  · have e : ((pkL bs).getD (t / 8) 0).toNat = byteAt bs (t / 8) := by
      rw [List.getD_eq_getElem?_getD, List.getElem?_eq_getElem (by rw [pkL_length]; exact h1)]
      simp only [pkL, List.getElem_map, List.getElem_range, Option.getD_some]
      have := byteAt_lt h (t / 8)
      rw [UInt8.toNat_ofNat', Nat.mod_eq_of_lt (by omega)]
    have h2 := sg_bit hf (8 * (t / 8)) 8 (t % 8) (by omega)
    rw [bitAt, e, byteAt, show 7 - t % 8 = 8 - 1 - t % 8 from by omega, h2, show 8 * (t / 8) + t % 8 = t from by omega]
  · rw [bitAt, getD_out bs t (by omega), List.getD_eq_getElem?_getD, List.getElem?_eq_none (by rw [pkL_length]; exact h1)]
    simp


/-- The number of the first k of some bits; s: the first one is less. -/
def numZ (m : List Nat) (s : Bool) (k : Nat) : Int := (sg (fun i => m.getD i 0) 0 k : Int) - (if s = true ∧ 0 < k then (m.getD 0 0 : Int) * 2 ^ k else 0)
theorem sg_head {m : List Nat} (h : ∀ b ∈ m, b < 2) : ∀ k, m.getD 0 0 * 2 ^ k ≤ sg (fun i => m.getD i 0) 0 (k + 1)
  | 0 => by simp [sg]
  | k + 1 => by
    have := sg_head h k
    rw [sg, Nat.pow_succ]
    rw [← Nat.mul_assoc]
    omega
theorem numZ_bd {m : List Nat} (h : ∀ b ∈ m, b < 2) (s : Bool) (k : Nat) (hk : k ≤ 48) : -281474976710656 ≤ numZ m s k ∧ numZ m s k ≤ 281474976710656 := by
  have h1 := sg_lt (f := fun i => m.getD i 0) (fun i => getD_lt h i) 0 k
  have h2 : (2 : Nat) ^ k ≤ 2 ^ 48 := Nat.pow_le_pow_right (by omega) hk
  have h3 := getD_lt h 0
  have e : ((2 : Int) ^ k) = ((2 ^ k : Nat) : Int) := by simp
  unfold numZ
  rw [e]
  generalize sg (fun i => m.getD i 0) 0 k = S at *
  generalize (2 : Nat) ^ k = K at *
  generalize m.getD 0 0 = b at *
  have h4 : b * K ≤ K := by
    have : b ≤ 1 := by omega
    calc b * K ≤ 1 * K := Nat.mul_le_mul_right _ this
      _ = K := Nat.one_mul _
  have e2 : ((b : Int) * (K : Int)) = ((b * K : Nat) : Int) := by simp
  rw [e2]
  generalize b * K = q at *
  split <;> omega
theorem numZ_step (m : List Nat) (s : Bool) (k : Nat) (h : s = false ∨ 0 < k) : numZ m s (k + 1) = 2 * numZ m s k + (m.getD k 0 : Int) := by
  unfold numZ
  rw [sg, Nat.zero_add]
  cases s with
  | false => simp
  | true =>
    have hk : 0 < k := by simpa using h
    rw [if_pos ⟨rfl, by omega⟩, if_pos ⟨rfl, hk⟩, Int.pow_succ]
    generalize sg (fun i => m.getD i 0) 0 k = S at *
    have : (m.getD 0 0 : Int) * (2 ^ k * 2) = 2 * ((m.getD 0 0 : Int) * 2 ^ k) := by rw [← Int.mul_assoc, Int.mul_comm]
    rw [this]
    generalize (m.getD 0 0 : Int) * 2 ^ k = q at *
    generalize m.getD k 0 = b at *
    omega
theorem numZ_first (m : List Nat) : numZ m true 1 = -(m.getD 0 0 : Int) := by
  unfold numZ
  rw [if_pos ⟨rfl, by omega⟩]
  simp [sg]
  omega
theorem iv8_get (l : List Nat) (j : Nat) (h : j < l.length) : (iv8 l)[j]? = some (.int .i64 ((l.getD j 0 : Nat) : Int)) := by
  simp [iv8, List.getD_eq_getElem?_getD, List.getElem?_eq_getElem h]
set_option maxHeartbeats 1000000 in
theorem Number_any (m : List Nat) (s : Bool) (hb : ∀ b ∈ m, b < 2) (hl : m.length ≤ 48) (A : Option Addr) (c : Nat) (w : World) (hr : Rd w A (iv8 m)) :
    Calls Tryd.prog 59 #[.slice A m.length c, .bool s] w fun e w' => e = .returned (.int .i64 (numZ m s m.length)) ∧ w' = w := by
  have Hr := Lib.hid hr
  have Hbd := Lib.hid (numZ_bd hb s)
  have HgL := Lib.hid (getD_lt hb)
  clear hr hb
  go_enter Tryd.func59, Tryd.ntmps59
  go_wp2_with fail
  go_loop [5, 6] (fun nv iv => ∃ k : Nat, k ≤ m.length ∧ iv = .int .i64 (k : Int) ∧ nv = .int .i64 (numZ m s k)) (fun _ iv => m.length - (intOf iv).toNat)
  case atStart => exact ⟨0, by omega, rfl, by simp [numZ, sg]⟩
  case round =>
    obtain ⟨k, hk, rfl, rfl⟩ := hrel
    by_cases hkk : k < m.length
    · obtain ⟨b, o, rfl, hc⟩ := Hr.out k _ (iv8_get m k hkk)
      obtain ⟨bd1, bd2⟩ := Hbd.out k (by omega)
      have hbk := HgL.out k
      have hi1 : (k : Int) < m.length := by omega
      by_cases h0 : s = true ∧ k = 0
      · obtain ⟨rfl, rfl⟩ := h0
        have Hst := Lib.hid (numZ_first m)
        have hz : numZ m true 0 = 0 := by simp [numZ, sg]
        rw [hz]
        clear hz bd1 bd2
        simp only [Nat.add_zero] at hc
        generalize m.getD 0 0 = x at *
        go_wp2_with fail
        go_round
        case rel => exact ⟨1, by omega, rfl, by rw [Hst.out]⟩
        case measure => simp [intOf] <;> omega
      · have hs : s = false ∨ 0 < k := by
          cases s with
          | false => exact .inl rfl
          | true => right; rcases Nat.eq_zero_or_pos k with h | h; exact absurd ⟨rfl, h⟩ h0; exact h
        have Hst := Lib.hid (numZ_step m s k hs)
        generalize numZ m s k = n at *
        generalize m.getD k 0 = x at *
        rcases hs with rfl | hs
        · clear h0
          by_cases hk0 : k = 0
          · subst hk0
            simp only [Nat.add_zero] at hc
            go_wp2_with fail
            go_round
            case rel => exact ⟨1, by omega, rfl, by rw [Hst.out]⟩
            case measure => simp [intOf] <;> omega
          · have hk0' : ((k : Int) == 0) = false := by rw [beq_eq_false_iff_ne]; omega
            clear hk0
            go_wp2_with fail
            go_round
            case rel => exact ⟨k + 1, by omega, by go_num, by rw [Hst.out]⟩
            case measure => simp [intOf] <;> omega
        · have hk0' : ((k : Int) == 0) = false := by rw [beq_eq_false_iff_ne]; omega
          clear h0
          go_wp2_with fail
          go_round
          case rel => exact ⟨k + 1, by omega, by go_num, by rw [Hst.out]⟩
          case measure => simp [intOf] <;> omega
    · obtain rfl : k = m.length := by omega
      go_wp2_with fail
      go_ret
      exact ⟨rfl, rfl⟩
/-- What Number tells of the bits of bytes. -/
theorem numZ_u (f : Nat → Nat) (m : List Nat) (t : Nat) (h : ∀ i, i < m.length → m.getD i 0 = f (t + i)) : numZ m false m.length = (sg f t m.length : Nat) := by
  unfold numZ
  rw [if_neg (fun h => by cases h.1), Int.sub_zero]
  have key : ∀ n, n ≤ m.length → sg (fun i => m.getD i 0) 0 n = sg f t n := by
    intro n
    induction n with
    | zero => intro _; rfl
    | succ n ih => intro hn; rw [sg, sg, ih (by omega), Nat.zero_add, h n (by omega)]
  rw [key _ (Nat.le_refl _)]
theorem sg_top {f : Nat → Nat} (h : ∀ i, f i < 2) (t : Nat) : ∀ k, sg f t (k + 1) / 2 ^ k = f t
  | 0 => by simp [sg]
  | k + 1 => by
    have e := sg_top h t k
    have hb := h (t + (k + 1))
    rw [sg, Nat.pow_succ, Nat.mul_comm (2 ^ k) 2, ← Nat.div_div_eq_div_mul]
    rw [show (2 * sg f t (k + 1) + f (t + (k + 1))) / 2 = sg f t (k + 1) from by omega]
    exact e
theorem numZ_s (f : Nat → Nat) (hf : ∀ i, f i < 2) (m : List Nat) (t : Nat) (h : ∀ i, i < m.length → m.getD i 0 = f (t + i)) : numZ m true m.length = sgS f t m.length := by
  have h1 := numZ_u f m t h
  unfold numZ at h1 ⊢
  rw [if_neg (fun h => by cases h.1), Int.sub_zero] at h1
  rw [h1]
  unfold sgS
  rcases Nat.eq_zero_or_pos m.length with h0 | h0
  · rw [h0]; simp [sg]
  · obtain ⟨k, hk⟩ : ∃ k, m.length = k + 1 := ⟨m.length - 1, by omega⟩
    have h2 := sg_top hf t k
    have h3 : m.getD 0 0 = f t := by have := h 0 h0; simpa using this
    rw [hk, Nat.add_sub_cancel, h2, if_pos ⟨rfl, by omega⟩, h3]
    have h4 := hf t
    rcases (show f t = 0 ∨ f t = 1 by omega) with h5 | h5
    · rw [h5, if_neg (by omega)]; simp
    · rw [h5, if_pos (by omega)]; simp
end Go.Proofs.YtgohfbfdhdepnaaDoor

namespace Go.Proofs.YtgohfbfdhdepnaaDoor
open Go.RowKit

/-- The lowest bits of a number. -/
def loU (k : Int) (n : Nat) : Nat := (k % 2 ^ n).toNat
theorem loU_eq (k : Int) (n : Nat) : ((loU k n : Nat) : Int) = k % 2 ^ n := by
  have : 0 ≤ k % 2 ^ n := Int.emod_nonneg _ (Int.ne_of_gt (Int.pow_pos (by omega)))
  unfold loU; omega
theorem loU_lt (k : Int) (n : Nat) : loU k n < 2 ^ n := by
  have h1 := loU_eq k n
  have h2 : k % 2 ^ n < 2 ^ n := Int.emod_lt_of_pos _ (Int.pow_pos (by omega))
  have e : ((2 : Int) ^ n) = ((2 ^ n : Nat) : Int) := by simp
  rw [e] at h1 h2
  omega
theorem lo_bit (k : Int) (n i : Nat) (h : i < n) : (k / 2 ^ i) % 2 = ((loU k n / 2 ^ i % 2 : Nat) : Int) := by
  have h1 := loU_eq k n
  obtain ⟨d, hd⟩ : ∃ d, n = i + (d + 1) := ⟨n - i - 1, by omega⟩
  have hk := Int.mul_ediv_add_emod k (2 ^ n)
  rw [← h1] at hk
  have e : ((2 : Int) ^ n) = 2 ^ i * (2 * 2 ^ d) := by rw [hd, Int.pow_add, Int.pow_succ, Int.mul_comm (2 ^ d) 2]
  rw [e] at hk
  generalize loU k n = U at *
  generalize k / (2 ^ i * (2 * 2 ^ d)) = q at hk
  have e3 : ((U : Int) / 2 ^ i) = ((U / 2 ^ i : Nat) : Int) := by simp
  have e4 : k / 2 ^ i = (U : Int) / 2 ^ i + (2 * 2 ^ d) * q := by
    rw [← hk, Int.mul_assoc, Int.add_comm, Int.add_mul_ediv_left _ _ (Int.ne_of_gt (Int.pow_pos (by omega)))]
  rw [e4, e3, Int.mul_assoc]
  generalize (2 : Int) ^ d * q = z
  generalize U / 2 ^ i = y
  omega
theorem numZ_vb_u (U n : Nat) (h : U < 2 ^ n) : numZ (vb U n) false n = (U : Int) := by
  unfold numZ
  rw [if_neg (fun h => by cases h.1), Int.sub_zero]
  have hh := vb_part U n 0 n (by omega)
  rw [List.drop_zero, List.take_of_length_le (by rw [vb_length]; exact Nat.le_refl _), show n - 0 - n = 0 from by omega, Nat.pow_zero, Nat.div_one, Nat.mod_eq_of_lt h] at hh
  rw [hh]
theorem numZ_vb_s (U n : Nat) (h : U < 2 ^ n) : numZ (vb U n) true n = if 0 < n ∧ U / 2 ^ (n - 1) = 1 then (U : Int) - 2 ^ n else U := by
  have h1 := numZ_s (fun i => (vb U n).getD i 0) (fun i => getD_lt (vb_lt U n) i) (vb U n) 0 (fun i _ => by rw [Nat.zero_add])
  rw [vb_length] at h1
  rw [h1]
  unfold sgS
  have h2 := numZ_vb_u U n h
  unfold numZ at h2
  rw [if_neg (fun h => by cases h.1), Int.sub_zero] at h2
  rw [Int.ofNat_inj.1 h2]
/-- What Put tells. -/
def rpE (n k : Int) (s : Bool) : Int := if n < 0 ∨ 48 < n then 1 else if numZ (vb (loU k n.toNat) n.toNat) s n.toNat = k then 0 else 10
def rpB (bs : List Nat) (n k : Int) (s : Bool) : List Nat := if rpE n k s = 0 then bs ++ vb (loU k n.toNat) n.toNat else bs
theorem rpE_u (n k : Int) : rpE n k false = ptE n k := by
  unfold rpE ptE
  split
  · rfl
  · rw [numZ_vb_u _ _ (loU_lt k _), loU_eq]
    have hp : (0 : Int) < 2 ^ n.toNat := Int.pow_pos (by omega)
    by_cases h : k < 0 ∨ 2 ^ n.toNat ≤ k
    · rw [if_pos h, if_neg]
      intro e
      have h1 : 0 ≤ k % 2 ^ n.toNat := Int.emod_nonneg _ (Int.ne_of_gt hp)
      have h2 : k % 2 ^ n.toNat < 2 ^ n.toNat := Int.emod_lt_of_pos _ hp
      omega
    · rw [if_neg h, if_pos]
      exact Int.emod_eq_of_lt (by omega) (by omega)
theorem rpB_u (bs : List Nat) (n k : Int) : rpB bs n k false = ptB bs n k := by
  unfold rpB ptB
  rw [rpE_u]
  by_cases h : ptE n k = 0
  · rw [if_pos h, if_pos h]
    have h2 := h
    unfold ptE at h2
    split at h2
    · cases h2
    · split at h2
      · cases h2
      · have e : loU k n.toNat = k.toNat := by
          unfold loU
          rw [Int.emod_eq_of_lt (by omega) (by omega)]
        rw [e]
  · rw [if_neg h, if_neg h]
theorem sgn_core (m : Nat) (k : Int) : (if 0 < m + 1 ∧ loU k (m + 1) / 2 ^ (m + 1 - 1) = 1 then (loU k (m + 1) : Int) - 2 ^ (m + 1) else (loU k (m + 1) : Int)) = k ↔ ¬ (k < -2 ^ m ∨ 2 ^ m ≤ k) := by
  have ek : ((2 : Int) ^ m) = ((2 ^ m : Nat) : Int) := by simp
  have eq : ((2 : Int) ^ (m + 1)) = 2 * ((2 ^ m : Nat) : Int) := by rw [Int.pow_succ, ek, Int.mul_comm]
  have h1 := loU_eq k (m + 1)
  have hK : 0 < (2 : Nat) ^ m := Nat.pow_pos (by omega)
  rw [Nat.add_sub_cancel]
  rw [eq] at h1 ⊢
  rw [ek]
  generalize loU k (m + 1) = U at *
  clear ek eq
  generalize (2 : Nat) ^ m = K at *
  have hz0 : 0 ≤ k % (2 * (K : Int)) := Int.emod_nonneg _ (by omega)
  have hz1 : k % (2 * (K : Int)) < 2 * (K : Int) := Int.emod_lt_of_pos _ (by omega)
  have hd := Int.mul_ediv_add_emod k (2 * (K : Int))
  rw [← h1] at hz0 hz1
  have hU : U < 2 * K := by omega
  by_cases hc : U / K = 1
  · rw [if_pos ⟨by omega, hc⟩]
    have hUK : K ≤ U := by
      rcases Nat.lt_or_ge U K with h | h
      · rw [Nat.div_eq_of_lt h] at hc; cases hc
      · exact h
    constructor
    · intro e; omega
    · intro hr
      rcases (show k < 0 ∨ 0 ≤ k by omega) with hk | hk
      · have e : k % (2 * (K : Int)) = k + 2 * K := by
          rw [← Int.add_emod_right]
          exact Int.emod_eq_of_lt (by omega) (by omega)
        omega
      · have e : k % (2 * (K : Int)) = k := Int.emod_eq_of_lt hk (by omega)
        omega
  · rw [if_neg (fun h => hc h.2)]
    have hUK : U < K := by
      rcases Nat.lt_or_ge U K with h | h
      · exact h
      · exact absurd (Nat.div_eq_of_lt_le (by omega) (by omega)) hc
    constructor
    · intro e; omega
    · intro hr
      rcases (show k < 0 ∨ 0 ≤ k by omega) with hk | hk
      · have e : k % (2 * (K : Int)) = k + 2 * K := by
          rw [← Int.add_emod_right]
          exact Int.emod_eq_of_lt (by omega) (by omega)
        omega
      · have e : k % (2 * (K : Int)) = k := Int.emod_eq_of_lt hk (by omega)
        omega
theorem rpE_s (n k : Int) : rpE n k true = swE n k := by
  unfold rpE swE
  split
  · rfl
  · rename_i hn
    rw [numZ_vb_s _ _ (loU_lt k _)]
    obtain ⟨j, rfl⟩ : ∃ j : Nat, n = j := ⟨n.toNat, by omega⟩
    rw [Int.toNat_natCast]
    cases j with
    | zero =>
      have e0 : loU k 0 = 0 := by unfold loU; simp [Int.emod_one]
      by_cases h : k = 0
      · subst h; simp [e0]
      · have h' : ¬ (0 : Int) = k := fun e => h e.symm
        simp [e0, h, h']
    | succ m =>
      by_cases h : k < -2 ^ m ∨ 2 ^ m ≤ k
      · rw [if_neg (fun e => (sgn_core m k).1 e h), if_pos (.inr ⟨by omega, by simpa using h⟩)]
      · rw [if_pos ((sgn_core m k).2 h), if_neg]
        rintro (⟨h1, -⟩ | ⟨-, h1⟩)
        · omega
        · exact h (by simpa using h1)
theorem rpB_s (bs : List Nat) (n k : Int) : rpB bs n k true = swB bs n k := by
  unfold rpB swB
  rw [rpE_s]
  rfl
theorem iv8_one (l : List Nat) : ∀ u ∈ iv8 l, u.oneCell' = true := by
  intro u hu
  obtain ⟨x, -, rfl⟩ := List.mem_map.1 hu
  rfl
theorem vb_take_succ (U n j : Nat) (h : j < n) : (vb U n).take (j + 1) = (vb U n).take j ++ [U / 2 ^ (n - 1 - j) % 2] := by
  rw [List.take_succ_eq_append_getElem (by rw [vb_length]; exact h)]
  simp [vb]

def LPost (v : Value) (E : Int) (bs' : List Nat) (B : Nat) (w : World) (e : Ending) (w' : World) : Prop :=
  ∃ v', e = .returned (.tuple #[v', .int .i64 E]) ∧ w'.ownsRow B 3 1 v' bs'.length (iv8 bs') ∧ FrL v v' w w'
set_option maxRecDepth 100000 in
set_option maxHeartbeats 2000000 in
theorem RPut_any (v : Value) (bs : List Nat) (n k : Int) (s : Bool) (B : Nat) (w : World) (hown : w.ownsRow B 3 1 v bs.length (iv8 bs)) (hB : B ≤ w.heap.size) (hlen : bs.length ≤ 1000000000000) (hk1 : -9223372036854775808 ≤ k) (hk2 : k ≤ 9223372036854775807) :
    Calls Tryd.prog 38 #[v, .int .i64 n, .int .i64 k, .bool s] w (LPost v (rpE n k s) (rpB bs n k s) B w) := by
  have Hown := Lib.hid hown
  obtain ⟨A, c, rfl, hc, -, -, hnil⟩ := own_rd4 hown
  clear hown
  by_cases hn : n < 0 ∨ 48 < n
  · have hE : rpE n k s = 1 := by rw [rpE, if_pos hn]
    rw [rpB, hE, if_neg (by decide)]
    clear hE
    by_cases h1 : n < 0
    · clear hn
      go_enter Tryd.func38, Tryd.ntmps38
      go_wp2_with fail
      go_ret2
      exact ⟨_, rfl, Hown.out, FrL.refl _ _⟩
    · have h2 : n > 48 := by omega
      clear hn
      go_enter Tryd.func38, Tryd.ntmps38
      go_wp2_with fail
      go_ret2
      exact ⟨_, rfl, Hown.out, FrL.refl _ _⟩
  obtain ⟨q, rfl⟩ : ∃ q : Nat, n = q := ⟨n.toNat, by omega⟩
  have hE : rpE q k s = if numZ (vb (loU k q) q) s q = k then 0 else 10 := by rw [rpE, if_neg hn, Int.toNat_natCast]
  have hBt : rpB bs q k s = if numZ (vb (loU k q) q) s q = k then bs ++ vb (loU k q) q else bs := by
    rw [rpB, hE, Int.toNat_natCast]
    by_cases h : numZ (vb (loU k q) q) s q = k
    · rw [if_pos h, if_pos h, if_pos rfl]
    · rw [if_neg h, if_neg h, if_neg (by decide)]
  have HY : Hid (numZ (vb (loU k q) q) s q = k → rpE q k s = 0 ∧ rpB bs q k s = bs ++ vb (loU k q) q) := fun h => by rw [hE, hBt, if_pos h, if_pos h]; exact ⟨rfl, rfl⟩
  have HNo : Hid (numZ (vb (loU k q) q) s q ≠ k → rpE q k s = 10 ∧ rpB bs q k s = bs) := fun h => by rw [hE, hBt, if_neg h, if_neg h]; exact ⟨rfl, rfl⟩
  clear hE hBt
  generalize rpE q k s = E at *
  generalize rpB bs q k s = bs' at *
  have hq1 : ¬ (q : Int) < 0 := by omega
  have hq2 : ¬ (q : Int) > 48 := by omega
  have hq48 : q ≤ 48 := by omega
  clear hn
  have Hbit := Lib.hid (fun i h => lo_bit k q i h)
  generalize loU k q = U at *
  have HN := Lib.hid (fun A c W h => Number_any (vb U q) s (vb_lt U q) (by rw [vb_length]; exact hq48) A c W h)
  rw [vb_length] at HN
  have Hsucc := Lib.hid (fun j h => vb_take_succ U q j h)
  have Hful : Hid ((vb U q).take q = vb U q) := by show _ = _; exact List.take_of_length_le (by rw [vb_length]; exact Nat.le_refl _)
  have Hln := Lib.hid (vb_length U q)
  have Hnil := Lib.hid hnil
  clear hnil
  generalize numZ (vb U q) s q = Z at *
  go_enter Tryd.func38, Tryd.ntmps38
  go_wp2_with fail
  go_loopw [10, 11] (fun ov iv wr => ∃ j : Nat, j ≤ q ∧ iv = .int .i64 ((q : Int) - 1 - j) ∧ Hid (wr.ownsRow w.heap.size 3 1 ov j (iv8 ((vb U q).take j))) ∧ Hid (Below w.heap.size w wr)) (fun _ iv _ => (intOf iv + 1).toNat)
  case atStart => exact ⟨0, Nat.zero_le _, by simp, World.ownsRow_nil w w.heap.size _ 1, Below.refl _ _⟩
  case round =>
    obtain ⟨j, hj, rfl, Ho, Hb⟩ := hrel
    by_cases hjq : j < q
    · obtain ⟨r, hr⟩ : ∃ r, q - 1 - j = r := ⟨_, rfl⟩
      have hr1 : ((q : Int) - 1 - j) = (r : Int) := by omega
      have Hr : Hid (r + j + 1 = q) := by show _ = _; omega
      have Hs : Hid (iv8 ((vb U q).take (j + 1)) = iv8 ((vb U q).take j) ++ [.int .i64 (U / 2 ^ r % 2 : Nat)]) := by
        show _ = _
        rw [Hsucc.out j hjq, iv8_append, hr]; rfl
      have hb1 := Hbit.out r (by omega)
      have ha := i64_low (k / 2 ^ r) 1 (by omega)
      rw [show ((2 : Int) ^ 1) = 2 from rfl, hb1, show ((2 ^ 1 - 1 : Nat) : Int) = 1 from rfl] at ha
      generalize U / 2 ^ r % 2 = x at *
      rw [hr1]
      clear hb1 hr hr1
      have hbs := Hb.out.size
      have hmin : min r 64 = r := Nat.min_eq_left (by have := Hr.out; omega)
      have hr0 : (0 : Int) ≤ r := by omega
      have hwr : IntKind.i64.wrap ((r : Int) - 1) = (r : Int) - 1 := by rw [IntKind.wrap_i64]; have := Hr.out; omega
      have hj48 : j ≤ 48 := by omega
      go_wp2_with (at_builtin; refine app1 (w0 := w) rfl _ _ 65 rfl Tryd.underlying65 info_int1 rfl (by decide) rfl Ho.out (Nat.le_refl _) hbs Hb.out rfl rfl (one_int _ _) (by omega) (by unfold maxLen; omega) ?_; intro v1 w6 own1 hb6 hs6; have Hown1 := Lib.hid own1; have Hb6 := Lib.hid hb6; clear own1 hb6)
      go_roundw
      case rel => exact ⟨j + 1, by omega, by have := Hr.out; first | (congr 1; omega) | (simp; omega), by rw [Hs.out]; exact Hown1.out, Hb6.out⟩
      case measure => simp [intOf] <;> omega
    · obtain rfl : j = q := by omega
      rw [Hful.out] at Ho
      obtain ⟨A2, c2, rfl, hc2, -, hr2, hnil2⟩ := own_rd4 Ho.out
      have HN2 := Lib.hid (HN.out A2 c2 wr hr2)
      have Hr2 := Lib.hid hr2
      have Hn2 := Lib.hid (fun h => (hnil2 h).2)
      have Hov := Lib.hid (ownsRow_below Hown.out Hb.out)
      have hBr : B ≤ wr.heap.size := Nat.le_trans hB Hb.out.size
      have hm1 : ((j : Int) - 1 - j) = -1 := by omega
      rw [hm1]
      clear hr2 hnil2 Ho HN Hbit Hsucc hm1 hjq hj
      by_cases hZ : Z = k
      · have hzk : (Z != k) = false := by rw [hZ]; simp
        obtain ⟨rfl, rfl⟩ := HY.out hZ
        clear hZ HY HNo
        go_wp2_with fail
        refine HN2.out.mono ?_
        rintro e w2 ⟨rfl, rfl⟩
        go_wp2_with (at_builtin; refine appNg (n := bs.length) (m := j) (bytes := 8) rfl _ _ 65 rfl Tryd.underlying65 info_int1 rfl rfl Hov.out hBr rfl Hr2.out (by rw [iv8_length]; exact Hln.out) Hn2.out (iv8_one _) (by omega) (by unfold maxLen; omega) ?_; intro v3 w3 own3 fr3; have Hown3 := Lib.hid own3; have HF3 := Lib.hid fr3; clear own3 fr3)
        go_ret2
        exact ⟨v3, rfl, by rw [List.length_append, Hln.out, iv8_append]; exact Hown3.out, (FrL.of Hb.out).trans HF3.out⟩
      · have hzk : (Z != k) = true := by rw [bne_iff_ne]; exact hZ
        obtain ⟨rfl, rfl⟩ : E = 10 ∧ bs = bs' := ⟨(HNo.out hZ).1, (HNo.out hZ).2.symm⟩
        clear hZ HY HNo
        have HF := Lib.hid (FrL.of (v := .slice A bs.length c) Hb.out)
        go_wp2_with fail
        refine HN2.out.mono ?_
        rintro e w2 ⟨rfl, rfl⟩
        go_wp2_with fail
        go_ret2
        exact ⟨_, rfl, Hov.out, HF.out⟩
end Go.Proofs.YtgohfbfdhdepnaaDoor

namespace Go.Proofs.YtgohfbfdhdepnaaDoor
open Go.RowKit

theorem zb_snoc (j : Nat) : zb (j + 1) = zb j ++ [0] := by rw [← zb_add]; rfl
set_option maxRecDepth 100000 in
set_option maxHeartbeats 2000000 in
theorem RBytesL_any (bs : List Nat) (hb : ∀ b ∈ bs, b < 2) (A : Option Addr) (c : Nat) (w : World) (hr : Rd w A (iv8 bs)) (hl : bs.length ≤ 4000000) :
    Calls Tryd.prog 41 #[.slice A bs.length c] w fun e w' => ∃ v, e = .returned v ∧ Hid (w'.ownsRow w.heap.size 5 1 v (pkL bs).length (bv (pkL bs))) ∧ Below w.heap.size w w' := by
  have Hr := Lib.hid hr
  have Hfin : Hid (bv (pkL bs) = pkN bs ((bs.length + 7) / 8)) := bv_pkL bs hb
  have Hpl := Lib.hid (pkL_length bs)
  have HgL := Lib.hid (getD_lt hb)
  have Hsg := Lib.hid (fun t n => sg_lt (getD_lt hb) t n)
  have Hout := Lib.hid (getD_out bs)
  have Hsn : Hid (∀ d, pkN bs (d + 1) = pkN bs d ++ [.int .u8 (sg (fun t => bs.getD t 0) (8 * d) 8 : Nat)]) := by
    intro d
    simp [pkN, List.range_succ, byteAt]
  have HG := Lib.hid (fun W (h : Rd W A (iv8 bs)) j (hj : j < bs.length) => h j _ (iv8_get bs j hj))
  clear hr hb
  go_enter Tryd.func41, Tryd.ntmps41
  go_wp2_with fail
  go_loopw [3, 4] (fun ov iv wr => ∃ d : Nat, 8 * d < bs.length + 8 ∧ iv = .int .i64 ((8 * d : Nat) : Int) ∧ Hid (wr.ownsRow w.heap.size 5 1 ov d (pkN bs d)) ∧ Hid (Below w.heap.size w wr)) (fun _ iv _ => (bs.length + 8 - intOf iv).toNat)
  case atStart => exact ⟨0, by omega, rfl, World.ownsRow_nil w w.heap.size _ 1, Below.refl _ _⟩
  case round =>
    obtain ⟨d, hd, rfl, Ho, Hb⟩ := hrel
    by_cases hdl : 8 * d < bs.length
    · have hdl2 : ((8 * d : Nat) : Int) < bs.length := by omega
      obtain ⟨D, hD⟩ : ∃ D, 8 * d = D := ⟨_, rfl⟩
      have HD := Lib.hid hD
      have Hsd := Lib.hid (Hsn.out d)
      have hsg8 := Hsg.out D 8
      rw [hD] at Hsd hdl2 hd hdl ⊢
      clear hD
      go_wp2_with fail
      go_loop [5, 6] (fun nv kv => ∃ k : Nat, k ≤ 8 ∧ kv = .int .i64 (k : Int) ∧ nv = .int .i64 (sg (fun t => bs.getD t 0) D k : Nat)) (fun _ kv => (8 - intOf kv).toNat)
      case atStart => exact ⟨0, by omega, rfl, rfl⟩
      case round =>
        obtain ⟨k, hk, rfl, rfl⟩ := hrel
        by_cases hk8 : k < 8
        · have Hst : Hid (sg (fun t => bs.getD t 0) D (k + 1) = 2 * sg (fun t => bs.getD t 0) D k + bs.getD (D + k) 0) := rfl
          have hlt := Hsg.out D k
          have hlt8 : (2 : Nat) ^ k ≤ 2 ^ 8 := Nat.pow_le_pow_right (by omega) hk
          have hS : sg (fun t => bs.getD t 0) D k < 256 := Nat.lt_of_lt_of_le hlt hlt8
          clear hlt hlt8
          generalize sg (fun t => bs.getD t 0) D k = S at *
          by_cases hin : D + k < bs.length
          · obtain ⟨b, o, rfl, hc⟩ := HG.out wr (Hr.out.below Hb.out) (D + k) hin
            have hx := HgL.out (D + k)
            have hin2 : (D : Int) + k < bs.length := by omega
            generalize bs.getD (D + k) 0 = x at *
            have e1 : ((D : Int) + k).toNat = D + k := by omega
            go_wp2_with fail
            go_round
            case rel => exact ⟨k + 1, by omega, by go_num, by rw [Hst.out]; go_num⟩
            case measure => simp [intOf] <;> omega
          · have hx : bs.getD (D + k) 0 = 0 := Hout.out _ (by omega)
            rw [hx] at Hst
            have hin2 : ¬ (D : Int) + k < bs.length := by omega
            clear hx hin
            go_wp2_with fail
            go_round
            case rel => exact ⟨k + 1, by omega, by go_num, by rw [Hst.out]; go_num⟩
            case measure => simp [intOf] <;> omega
        · obtain rfl : k = 8 := by omega
          generalize sg (fun t => bs.getD t 0) D 8 = S at *
          have hw8 : IntKind.u8.wrap (S : Int) = S := wrap_u8_nat S (by omega)
          have hbs := Hb.out.size
          have hdm : d ≤ 4000000 := by have := HD.out; omega
          go_wp2_with (at_builtin; refine app1 (w0 := w) (n := d) (bytes := 1) rfl _ _ 28 rfl Tryd.underlying28 info_u8 rfl (by decide) rfl Ho.out (Nat.le_refl _) hbs Hb.out rfl rfl (one_u8 _) (by omega) (by unfold maxLen; omega) ?_; intro v1 w6 own1 hb6 hs6; have Hown1 := Lib.hid own1; have Hb6 := Lib.hid hb6; clear own1 hb6)
          go_roundw
          case rel => exact ⟨d + 1, by have := HD.out; omega, by have := HD.out; first | (congr 1; omega) | (simp; omega), by rw [Hsd.out]; exact Hown1.out, Hb6.out⟩
          case measure => simp [intOf] <;> omega
    · have hdd : d = (bs.length + 7) / 8 := by omega
      have hdl2 : ¬ ((8 * d : Nat) : Int) < bs.length := by omega
      have Hdd := Lib.hid hdd
      clear hdd
      go_wp2_with fail
      go_ret
      refine ⟨_, rfl, ?_, Hb.out⟩
      rw [Hpl.out, Hfin.out, ← Hdd.out]
      exact Ho.out

/-- The bits of bytes, one by one. -/
def by8 (l : List UInt8) : List Nat := l.flatMap fun x => vb x.toNat 8
theorem by8_length (l : List UInt8) : (by8 l).length = 8 * l.length := by
  induction l with
  | nil => rfl
  | cons x l ih => unfold by8 at *; rw [List.flatMap_cons, List.length_append, ih, vb_length, List.length_cons]; omega
theorem by8_append (l m : List UInt8) : by8 (l ++ m) = by8 l ++ by8 m := by simp [by8]
theorem by8_snoc (l : List UInt8) (j : Nat) (h : j < l.length) : by8 (l.take (j + 1)) = by8 (l.take j) ++ vb (l[j]).toNat 8 := by
  rw [List.take_succ_eq_append_getElem h, by8_append]; simp [by8]
theorem put8 (bs : List Nat) (x : Nat) (h : x < 256) : ptE 8 x = 0 ∧ ptB bs 8 x = bs ++ vb x 8 := by
  have e : ptE 8 x = 0 := by
    rw [ptE, if_neg (by omega), if_neg]
    show ¬ ((x : Int) < 0 ∨ (2 : Int) ^ 8 ≤ x)
    omega
  exact ⟨e, by rw [ptB, if_pos e, Int.toNat_natCast]; rfl⟩
set_option maxRecDepth 100000 in
set_option maxHeartbeats 2000000 in
theorem AppendW_any (R : Nat) (bs : List Nat) (u : Value) (ls : List (List UInt8)) (vs : List Value) (A : Option Addr) (c : Nat) (w : World) (hW : Wtr w R bs u) (hvl : vs.length = ls.length)
    (hv : ∀ W, Fr (WS R u) w W → Rd W A vs ∧ ∀ (j : Nat) (x : Value) (y : List UInt8), vs[j]? = some x → ls[j]? = some y → BS W x y) (hlen : bs.length + 8 * ls.flatten.length ≤ 100000000000) (hll : ls.length ≤ 1000000000000) :
    Calls Tryd.prog 28 #[.pointer (some ⟨R, 0, none⟩), .slice A ls.length c] w fun e w' => e = .returned (.tuple #[]) ∧ ∃ u', Wtr w' R (bs ++ by8 ls.flatten) u' ∧ FrW R u u' w w' := by
  have HW := Lib.hid hW
  have HV := Lib.hid hv
  have Hvl := Lib.hid hvl
  have Hlen := Lib.hid hlen
  clear hW hv hvl hlen
  go_enter Tryd.func28, Tryd.ntmps28
  go_wp2_with fail
  go_loopw [10] (fun iv wr => ∃ (i : Nat) (u' : Value), i ≤ ls.length ∧ iv = .int .i64 (i : Int) ∧ Hid (Wtr wr R (bs ++ by8 (ls.take i).flatten) u') ∧ Hid (FrW R u u' w wr)) (fun iv _ => (ls.length - intOf iv).toNat)
  case atStart => exact ⟨0, u, by omega, rfl, by show Wtr _ _ _ _; simpa [by8] using HW.out, FrW.refl _ _ _⟩
  case round =>
    clear HW
    obtain ⟨i, u1, hi, rfl, HW1, HF1⟩ := hrel
    by_cases hil : i < ls.length
    · have hil2 : (i : Int) < ls.length := by omega
      have hiv : i < vs.length := by have := Hvl.out; omega
      obtain ⟨hA, hB⟩ := HV.out wr HF1.out.fr
      obtain ⟨b, o, rfl, hc⟩ := hA.at_ hiv
      obtain ⟨A1, c1, e1, hc1, -⟩ := hB i vs[i] ls[i] (List.getElem?_eq_getElem hiv) (List.getElem?_eq_getElem hil)
      have HV2 : Hid (∀ W, Fr (WS R u) w W → Rd W A1 (bv ls[i])) := by
        intro W hW
        obtain ⟨A2, c2, e2, -, hr2⟩ := (HV.out W hW).2 i vs[i] ls[i] (List.getElem?_eq_getElem hiv) (List.getElem?_eq_getElem hil)
        rw [e1] at e2
        injection e2 with e3 e4 e5
        rw [e3]; exact hr2
      rw [e1] at hc
      have Hti : Hid (bs ++ by8 (ls.take (i + 1)).flatten = bs ++ by8 (ls.take i).flatten ++ by8 ls[i]) := by
        show _ = _
        rw [List.take_succ_eq_append_getElem hil, List.flatten_append, by8_append]; simp
      have Hlm : Hid ((bs ++ by8 (ls.take i).flatten).length + 8 * ls[i].length ≤ 100000000000) := by
        show _ ≤ _
        have h1 : ls.flatten = (ls.take i).flatten ++ (ls[i] ++ (ls.drop (i + 1)).flatten) := by
          have : ls = ls.take i ++ (ls[i] :: ls.drop (i + 1)) := by rw [← List.drop_eq_getElem_cons hil, List.take_append_drop]
          have h2 := congrArg List.flatten this
          rw [h2, List.flatten_append, List.flatten_cons]
        have h3 := congrArg List.length h1
        have h4 := Hlen.out
        rw [List.length_append, by8_length]
        rw [List.length_append, List.length_append] at h3
        omega
      clear hA hB e1
      generalize ls[i] = lb at *
      have Hlb : Hid (lb.length ≤ 100000000000) := by show _ ≤ _; have := Hlm.out; omega
      have hlb := Hlb.out
      generalize bs ++ by8 (ls.take i).flatten = b1 at *
      go_wp2_with fail
      go_loopw [16] (fun kv wr => ∃ (k : Nat) (u' : Value), k ≤ lb.length ∧ kv = .int .i64 (k : Int) ∧ Hid (Wtr wr R (b1 ++ by8 (lb.take k)) u') ∧ Hid (FrW R u u' w wr)) (fun kv _ => (lb.length - intOf kv).toNat)
      case atStart => exact ⟨0, u1, by omega, rfl, by show Wtr _ _ _ _; simpa [by8] using HW1.out, HF1.out⟩
      case round =>
        clear HW1 HF1
        obtain ⟨k, u2, hk, rfl, HW2, HF2⟩ := hrel
        by_cases hkl : k < lb.length
        · have hkl2 : (k : Int) < lb.length := by omega
          obtain ⟨b2, o2, rfl, hc2⟩ := (HV2.out wr HF2.out.fr).at_ (j := k) (by rw [bv_length]; exact hkl)
          have e2 := bv_get lb k hkl
          rw [List.getElem?_eq_getElem (by rw [bv_length]; exact hkl)] at e2
          rw [Option.some.inj e2] at hc2
          clear e2
          have Hst : Hid (b1 ++ by8 (lb.take (k + 1)) = b1 ++ by8 (lb.take k) ++ vb (lb[k]).toNat 8) := by show _ = _; rw [by8_snoc lb k hkl, List.append_assoc]
          have hx := lb[k].toNat_lt
          have Hle : Hid ((b1 ++ by8 (lb.take k)).length + 48 ≤ 1000000000000) := by
            show _ ≤ _
            rw [List.length_append, by8_length, List.length_take]
            have := Hlm.out
            omega
          generalize lb[k].toNat = x at *
          generalize b1 ++ by8 (lb.take k) = bk at *
          have HP := Lib.hid (Put_any R bk u2 8 x wr HW2.out Hle.out)
          rw [(put8 bk x hx).1, (put8 bk x hx).2] at HP
          go_wp2_with fail
          refine HP.out.mono ?_
          rintro e w3 ⟨rfl, u3, hW3, f3⟩
          have HW3 := Lib.hid hW3
          have HF3 := Lib.hid (HF2.out.trans f3)
          clear hW3 f3 HP
          go_wp2_with fail
          go_roundw
          case rel => exact ⟨k + 1, u3, by omega, by go_num, by rw [Hst.out]; exact HW3.out, HF3.out⟩
          case measure => simp [intOf] <;> omega
        · obtain rfl : k = lb.length := by omega
          rw [List.take_length] at HW2
          go_wp2_with fail
          go_roundw
          case rel => exact ⟨i + 1, u2, by omega, by go_num, by rw [Hti.out]; exact HW2.out, HF2.out⟩
          case measure => simp [intOf] <;> omega
    · obtain rfl : i = ls.length := by omega
      rw [List.take_length] at HW1
      go_wp2_with fail
      exact bodyPost_end (v := .tuple #[]) (by simp [results, Tryd.results28, go_sem]) rfl ⟨rfl, u1, HW1.out, HF1.out⟩
end Go.Proofs.YtgohfbfdhdepnaaDoor
