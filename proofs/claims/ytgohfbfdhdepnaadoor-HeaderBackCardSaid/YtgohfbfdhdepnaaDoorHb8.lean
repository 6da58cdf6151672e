/-
  header.Read: its walk, from the block on.
  header.Read: its walk.
  header.Make: its walk.
  append onto a row of one's own, with what it turns; a row of one's own beside a Writer.
-/
import Derived.Test.YtgohfbfdhdepnaaDoorHb7
import Derived.Deep.DeepCutAuto
import Derived.Deep.RegionLaw
import Derived.Test.YtgohfbfdhdepnaaDoorHb5
import Derived.Test.YtgohfbfdhdepnaaDoorHb2
set_option linter.unusedSimpArgs false
set_option linter.unusedVariables false
namespace Go.Proofs.YtgohfbfdhdepnaaDoor
open Go.RowKit

set_option maxRecDepth 1000000 in
set_option maxHeartbeats 4000000 in
theorem tail12 (l : List UInt8) (A : Option Addr) (c : Nat) (w : World) (hl : l.length ≤ 1000) (hc : l.length ≤ c) (w1 : World) (Hb1 : Hid (Below w.heap.size w w1)) (HRd : Hid (Rd w1 A (bv l))) (Q R T : Nat) (A' : Option Addr) (c' : Nat) (W : World) (B2 : Nat) (V : Bool) (p2 q2 p3 m3 N S : Nat) (kb kr kd : Int)
    (H13 : Hid (Hr w1 W Q R T A' (l.take 16) c' 0 w.heap.size B2 ⟨V, p2, q2, p3, m3, N, kb, kr, kd⟩)) (Hkb : Hid (blkL.getD p2 0 = kb)) (bp2 : p2 < 16) (Hkr : Hid (ratL.getD q2 0 = kr)) (bq2 : q2 < 16)
    (HR3 : Hid (∀ (bb rr : Int) (at_ : Nat) (e : Int) (x : Hd) (n : Nat) (f : Int), TailRel l (l.take 16) p2 q2 T bb rr at_ e →
      (e ≠ 0 ∧ x = Hd.zero ∧ n = 0 ∧ f = e ∨ e = 0 ∧ x = ⟨V, p2, q2, p3, m3, N, bb, rr, kd⟩ ∧ n = at_ + 1 ∧ f = 0) → ReadRel l x n f))
    (v1 v9 v10 v11 v12 v13 u14 u15 u16 u17 u18 u19 u20 u21 u22 u23 u24 u25 u26 u27 u28 u29 u30 u31 u32 u33 u34 u35 u36 u37 u38 u39 u40 u41 u42 u43 u44 u45 u46 u47 u48 u49 u50 u51 u52 u53 u54 u55 u56 u57 u58 u59 u60 u61 u62 u63 u64 u65 u66 u67 u68 u69 u70 u71 u72 u73 u74 u75 u76 u77 u78 u79 u80 u81 u82 u83 u84 u85 u86 u87 u88 u89 u90 u91 u92 u93 u94 u95 u96 u97 u98 u99 u100 u101 u102 u103 u104 u105 u106 u107 u108 u109 u110 u111 u112 u113 u114 u115 u116 u117 u118 u119 u120 u121 u122 u123 u124 u125 u126 u127 u128 u129 u130 u131 u132 u133 u134 u135 u136 u137 u138 u139 u140 : Value) :
    Code.wp Tryd.prog (cdrC 9 rdBody) (bodyPost Tryd.prog Tryd.f18 fun z w' => ∃ (x : Hd) (n : Nat) (f : Int), z = .returned (.tuple #[x.val, .int .i64 n, .int .i64 f]) ∧ ReadRel l x n f ∧ Below w.heap.size w w') ⟨#[.slice A l.length c, v1, .pointer (some ⟨w.heap.size, 0, none⟩), .int .i64 0, .int .i64 0, .pointer (some ⟨Q, 0, none⟩), .pointer (some ⟨B2, 0, none⟩), .int .i64 (N : Int), .int .i64 (S : Int), v9, v10, v11, v12, v13, u14, u15, u16, u17, u18, u19, u20, u21, u22, u23, u24, u25, u26, u27, u28, u29, u30, u31, u32, u33, u34, u35, u36, u37, u38, u39, u40, u41, u42, u43, u44, u45, u46, u47, u48, u49, u50, u51, u52, u53, u54, u55, u56, u57, u58, u59, u60, u61, u62, u63, u64, u65, u66, u67, u68, u69, u70, u71, u72, u73, u74, u75, u76, u77, u78, u79, u80, u81, u82, u83, u84, u85, u86, u87, u88, u89, u90, u91, u92, u93, u94, u95, u96, u97, u98, u99, u100, u101, u102, u103, u104, u105, u106, u107, u108, u109, u110, u111, u112, u113, u114, u115, u116, u117, u118, u119, u120, u121, u122, u123, u124, u125, u126, u127, u128, u129, u130, u131, u132, u133, u134, u135, u136, u137, u138, u139, u140], []⟩ W := by
  conv => arg 2; whnf
  have f6 := H13.out.h.c 6 (.int .i64 kb) rfl
  go_upto_if 81 with fail
  go_cut [] (fun wx => ∃ (bb : Int) (t6 : Nat) (e7 : Int), BlkRel (l.take 16) p2 T bb t6 e7 ∧ Hr w1 wx Q R t6 A' (l.take 16) c' e7 w.heap.size B2 ⟨V, p2, q2, p3, m3, N, bb, kr, kd⟩)
  case first =>
    by_cases hk : kb = -2
    · obtain ⟨n3, hn3⟩ : ∃ n : Nat, (p2 - 5) * 8 = n := ⟨_, rfl⟩
      have hp67 := blk_behind7 p2 bp2 (Hkb.out.trans hk)
      have hn3i : ((p2 : Int) - 6 + 1) * 8 = (n3 : Int) := by omega
      have hn16 : n3 = 8 ∨ n3 = 16 := by omega
      have hv := tqV_ltN (l.take 16) T 0 n3
      have hv16 : tqV (l.take 16) T 0 n3 < 65536 := by rcases hn16 with rfl | rfl <;> omega
      have HTk := Lib.hid (take_any Q R T A' (l.take 16) c' 0 n3 w1 W H13.out.rq)
      have HBR : Hid (∀ bb : Int, bb = (tqV (l.take 16) T 0 n3 : Int) + 1 → BlkRel (l.take 16) p2 T bb (tqT (l.take 16) T 0 n3) (wrE (tqE (l.take 16) T 0 n3) (decide (65535 < bb)) 13)) := fun bb hb => .inl ⟨Hkb.out.trans hk, by rw [hn3]; exact hb, by rw [hn3], by rw [hn3]⟩
      clear hv hn16 hn3 hp67
      generalize tqV (l.take 16) T 0 n3 = v at *
      generalize tqT (l.take 16) T 0 n3 = t6 at *
      generalize tqE (l.take 16) T 0 n3 = e6 at *
      have f1 := H13.out.h.c 1 (.int .i64 p2) rfl
      have p20 : (p2 : Int) < 16 := by omega
      go_wp2_with fail
      refine HTk.out.mono ?_
      rintro z w13 ⟨rfl, hq, hf⟩
      have H14 := Lib.hid (H13.out.step hq hf)
      clear hq hf HTk f1 f6
      have f6 := H14.out.h.c 6 (.int .i64 kb) rfl
      have g6 := H14.out.fz 6
      obtain ⟨bb, hbb⟩ : ∃ b : Int, (v : Int) + 1 = b := ⟨_, rfl⟩
      have HBB := Lib.hid (HBR.out bb hbb.symm)
      have H15 := Lib.hid (H14.out.set 6 (.int .i64 bb) ⟨V, p2, q2, p3, m3, N, bb, kr, kd⟩ rfl)
      go_upto_region 14 with fail
      generalize w13.setCell ⟨B2, 6, none⟩ (.int .i64 bb) = w14 at *
      clear f6 g6 H13 H14 HBR hbb hv16
      have f6 := H15.out.h.c 6 (.int .i64 bb) rfl
      have HW := Lib.hid (wrongR_any Q R t6 A' (l.take 16) c' e6 (decide (65535 < bb)) 13 w1 w14 H15.out.rq)
      generalize wrE e6 (decide (65535 < bb)) 13 = e7 at *
      go_wp2_with fail
      refine HW.out.mono ?_
      rintro z w15 ⟨⟨q, rfl⟩, hq, hf⟩
      have H16 := Lib.hid (H15.out.step hq hf)
      clear hq hf
      go_wp2_with fail
      go_meet
      exact ⟨bb, t6, e7, HBB.out, H16.out⟩
    · have HBB : Hid (BlkRel (l.take 16) p2 T kb T 0) := by
        show BlkRel (l.take 16) p2 T kb T 0
        unfold BlkRel
        rw [Hkb.out]
        exact .inr ⟨hk, rfl, rfl, rfl⟩
      go_wp2_with fail
      go_meet
      exact ⟨kb, T, 0, HBB.out, H13.out⟩
  case rest =>
    obtain ⟨bb, t6, e7, hB, hH⟩ := hcut
    go_step
    refine tail15 l A c w hl hc w1 Hb1 HRd Q R t6 A' c' _ e7 B2 V p2 q2 p3 m3 N S bb kr kd hH Hkr bq2 ?_ _ _ _ _ _ _ _ _ _ _ _ _ _ _ _ _ _ _ _ _ _ _ _ _ _ _ _ _ _ _ _ _ _ _ _ _ _ _ _ _ _ _ _ _ _ _ _ _ _ _ _ _ _ _ _ _ _ _ _ _ _ _ _ _ _ _ _ _ _ _ _ _ _ _ _ _ _ _ _ _ _ _ _ _ _ _ _ _ _ _ _ _ _ _ _ _ _ _ _ _ _ _ _ _ _ _ _ _ _ _ _ _ _ _ _ _ _ _ _ _ _ _ _ _ _ _ _ _ _ _ _ _ _ 
    exact fun rr t8 e8 hR e x n f he h => HR3.out bb rr (t8 / 8) e x n f ⟨t6, t8, e7, e8, hB, hR, rfl, he⟩ h
end Go.Proofs.YtgohfbfdhdepnaaDoor

namespace Go.Proofs.YtgohfbfdhdepnaaDoor
open Go.RowKit

set_option maxRecDepth 100000 in
set_option maxHeartbeats 16000000 in
theorem Read_any (l : List UInt8) (A : Option Addr) (c : Nat) (w : World) (hr : Rd w A (bv l)) (hl : l.length ≤ 1000) (hc : l.length ≤ c) (hn : A = none → l.length = 0 ∧ c = 0) (ht : HTabs w) :
    Calls Tryd.prog 18 #[.slice A l.length c] w fun z w' => ∃ (x : Hd) (n : Nat) (f : Int), z = .returned (.tuple #[x.val, .int .i64 n, .int .i64 f]) ∧ ReadRel l x n f ∧ Below w.heap.size w w' := by
  have HT := Lib.hid ht
  have hlt : (l.take 16).length = min 16 l.length := List.length_take
  have HN := Lib.hid (fun W (hb : Below w.heap.size w W) => NewReader_any (l.take 16) A c W (by
    have h := (hr.below hb).take 16
    rwa [show (bv l).take 16 = bv (l.take 16) from by simp [bv]] at h) (by omega) (fun h => ⟨by rw [hlt]; have := (hn h).1; omega, (hn h).2⟩))
  obtain ⟨M, hM⟩ : ∃ M, (l.take 16).length = M := ⟨_, rfl⟩
  rw [hM] at HN
  have Hlt : Hid (M = min 16 l.length) := by show _ = _; rw [← hM]; exact hlt
  have hM16 : M ≤ 16 := by omega
  have hMl : M ≤ l.length := by omega
  have hmin : (M : Int) = min (l.length : Int) 16 := by omega
  have hMc : M ≤ c := by omega
  clear hlt hM
  obtain ⟨w1, hw1⟩ : ∃ w1, w.alloc (.cells Hd.zero.cells 23) = w1 := ⟨_, rfl⟩
  have hs1 : w1.heap.size = w.heap.size + 1 := by rw [← hw1]; simp
  have hz1 : HdAt w1 w.heap.size Hd.zero := by rw [← hw1]; exact heap_alloc_last w _
  have hb1 : Below w.heap.size w w1 := by rw [← hw1]; exact bal (Below.refl _ _) _
  have Hz1 := Lib.hid hz1
  have Hb1 := Lib.hid hb1
  have Hs1 := Lib.hid hs1
  simp only [Hd.zero, Hd.cells] at hw1
  have Hw1 := Lib.hid hw1
  have HNw := Lib.hid (HN.out w1 hb1)
  have HRd := Lib.hid (hr.below hb1)
  clear hw1 hs1 hz1 hb1 HN hr ht hmin
  go_enter Tryd.func18, Tryd.ntmps18
  go_upto_region 1 with fail
  rw [Hw1.out]
  clear Hw1
  go_cut [5] (fun v wx => ∃ (Q R : Nat) (A' : Option Addr) (c' : Nat), v = .pointer (some ⟨Q, 0, none⟩) ∧ Rq w1 wx Q R 0 A' (l.take 16) c' 0)
  case first =>
    by_cases h16 : (16 : Int) < l.length
    · obtain rfl : M = 16 := by have := Hlt.out; omega
      go_wp2_with fail
      refine HNw.out.mono ?_
      rintro z w2 ⟨R, A', c', rfl, hrd, hR1, hR2, hb2⟩
      go_wp2_with fail
      go_meet
      exact ⟨w2.heap.size, R, A', c', rfl, heap_alloc_last w2 _, hrd.below (bal (Below.refl _ _) _), bal hb2 _, hb2.size, hR1, by omega⟩
    · obtain rfl : M = l.length := by have := Hlt.out; omega
      go_wp2_with fail
      refine HNw.out.mono ?_
      rintro z w2 ⟨R, A', c', rfl, hrd, hR1, hR2, hb2⟩
      go_wp2_with fail
      go_meet
      exact ⟨w2.heap.size, R, A', c', rfl, heap_alloc_last w2 _, hrd.below (bal (Below.refl _ _) _), bal hb2 _, hb2.size, hR1, by omega⟩
  case rest =>
    obtain ⟨Q, R, A', c', rfl, hq⟩ := hcut
    obtain ⟨w3, hw3⟩ : ∃ w3, wc = w3 := ⟨_, rfl⟩
    rw [hw3] at hq ⊢
    have H3 := Lib.hid hq
    clear hq hw3 HNw hMc hMl hM16
    have HTw1 : Hid (HTabs w1) := HT.out.below Hb1.out
    go_wp2_with fail
    refine (head_any Q R A' (l.take 16) c' w1 _ H3.out HTw1.out).mono ?_
    rintro z w4 ⟨x1, x2, x3, t4, e9, rfl, HRel, b2, b3, hq4, hf4⟩
    have HRR : Hid ((e9 ≠ 0 → ReadRel l Hd.zero 0 e9) ∧ True) := ⟨fun h => ⟨x1, x2, x3, t4, e9, HRel.out, .inl ⟨h, rfl, rfl, rfl⟩⟩, trivial⟩
    have hQ1 := H3.out.leq
    have hR1 := H3.out.ler
    have hQ4 := (Array.getElem?_eq_some_iff.1 hq4.q).1
    have hR4 := (Array.getElem?_eq_some_iff.1 hq4.rd.row).1
    have hsz4 := hq4.b.size
    have hs1 := Hs1.out
    have H4 : Hid (∀ h : Hd, Hr w1 (w4.alloc (.cells h.cells 23)) Q R t4 A' (l.take 16) c' e9 w.heap.size w4.heap.size h) := fun h =>
      ⟨hq4.below (bal (Below.refl _ _) _), hrow_alloc ((hq4.b.block _ (by omega)).trans Hz1.out) _, heap_alloc_last w4 _, ⟨by omega, by omega⟩, ⟨by omega, by omega⟩, by omega, by omega⟩
    obtain ⟨V, hV⟩ : ∃ V : Bool, ((x1 % 2 : Nat) == 1) = V := ⟨_, rfl⟩
    obtain ⟨p2, hp2⟩ : ∃ p : Nat, x2 / 16 = p := ⟨_, rfl⟩
    obtain ⟨q2, hq2⟩ : ∃ p : Nat, x2 % 16 = p := ⟨_, rfl⟩
    obtain ⟨p3, hp3⟩ : ∃ p : Nat, x3 / 16 = p := ⟨_, rfl⟩
    obtain ⟨m3, hm3⟩ : ∃ p : Nat, x3 / 2 % 8 = p := ⟨_, rfl⟩
    have bp2 : p2 < 16 := by omega
    have bq2 : q2 < 16 := by omega
    have bm3 : m3 < 8 := by omega
    have HV := Lib.hid hV
    rw [hV, hp2, hq2, hp3, hm3]
    have Hb4 := Lib.hid (bnext Hb1.out hq4.b)
    clear hQ1 hR1 hQ4 hR4 hsz4 hs1 hq4 hf4 H3 b2 b3 Hz1 Hs1
    have H5 := Lib.hid (H4.out ⟨V, p2, q2, p3, m3, 0, 0, 0, 0⟩)
    clear H4
    simp only [Hd.val]
    simp only [Hd.cells] at H5
    go_upto_region 3 with fail
    generalize w4.alloc (.cells #[.bool V, .int .i64 p2, .int .i64 q2, .int .i64 p3, .int .i64 m3, .int .i64 0, .int .i64 0, .int .i64 0, .int .i64 0] 23) = w5 at *
    generalize w4.heap.size = B2 at *
    have hc1 := H5.out.rq.c1
    by_cases he9 : e9 = 0
    case neg =>
      have he9' : (e9 != 0) = true := by rw [bne_iff_ne]; exact he9
      go_upto_region 4 with fail
      clear hc1
      refine wp_region_headN (fun W' => W'.cell? ⟨Q, 1, none⟩ = some (.int .i64 e9)) 5 3 (by kernel_rfl) rfl (by kernel_rfl) (H5.out.rq.c1) ?_
      simp only [List.take_succ_cons, List.take_zero]
      refine' wpHead_op _ (by rfl) ?hv6 ?hrest6
      case hv6 => (intro w' hS'; (try dsimp only at hS'); go_simp; try with_reducible rfl)
      try simp only [Act.put, List.setIfInBounds_toArray, List.set_cons_zero, List.set_cons_succ]
      refine' wpHead_op _ (by rfl) ?hv7 ?hrest7
      case hv7 => (intro w' hS'; (try dsimp only at hS'); go_simp; try with_reducible rfl)
      try simp only [Act.put, List.setIfInBounds_toArray, List.set_cons_zero, List.set_cons_succ]
      refine' wpHead_op _ (by rfl) ?hv8 ?hrest8
      case hv8 => (intro w' hS'; (try dsimp only at hS'); go_simp; try with_reducible rfl)
      try simp only [Act.put, List.setIfInBounds_toArray, List.set_cons_zero, List.set_cons_succ]
      refine' wpHead_op _ (by rfl) ?hv9 ?hrest9
      case hv9 => (intro w' hS'; (try dsimp only at hS'); go_simp; try with_reducible rfl)
      try simp only [Act.put, List.setIfInBounds_toArray, List.set_cons_zero, List.set_cons_succ]
      refine' wpHead_op _ (by rfl) ?hv10 ?hrest10
      case hv10 => (intro w' hS'; (try dsimp only at hS'); go_simp; try with_reducible rfl)
      try simp only [Act.put, List.setIfInBounds_toArray, List.set_cons_zero, List.set_cons_succ]
      refine wpHead_nil ?_
      refine wpAnyH_next (i := 5) (by kernel_rfl) rfl (by rfl) (fun K hK => ?_)
      refine wp_store_row' (c := Hd.zero.cells) (c' := Hd.zero.cells) (t := 23) 23 _ _ rfl w.heap.size rfl rfl H5.out.z (by kernel_rfl) rfl (Hd.one _) ?_
      intro wz hwz
      have hSz : wz.cell? ⟨Q, 1, none⟩ = some (.int .i64 e9) := by rw [← hwz]; exact (World.cell?_of_block (setRow_other _ _ _ _ (fun k => H5.out.n1.1 k.symm))).trans H5.out.rq.c1
      have hRz : wz.heap[w.heap.size]? = some (.cells Hd.zero.cells 23 (0, 0)) := by rw [← hwz]; exact setRow_heap _ w.heap.size _ _ 23 (0, 0) H5.out.z
      have hBz : Below w.heap.size w wz := by rw [← hwz]; exact Below.setRow ((bnext Hb1.out H5.out.rq.b).drew) (Nat.le_refl _) _
      clear hwz
      refine hK.out _ _ hSz ?_
      clear hK K
      try simp only [Act.put, List.setIfInBounds_toArray, List.set_cons_zero, List.set_cons_succ]
      refine wpAnyH_next (i := 6) (by kernel_rfl) rfl (by rfl) (fun K hK => ?_)
      go_simp
      refine hK.out _ _ hSz ?_
      clear hK K
      try simp only [Act.put, List.setIfInBounds_toArray, List.set_cons_zero, List.set_cons_succ]
      refine wpAnyH_next (i := 7) (by kernel_rfl) rfl (by rfl) (fun K hK => ?_)
      go_simp
      refine hK.out _ _ hSz ?_
      clear hK K
      try simp only [Act.put, List.setIfInBounds_toArray, List.set_cons_zero, List.set_cons_succ]
      refine wpAnyH_doneN (by kernel_rfl) ?_
      go_wp2_with fail
      exact bodyPost_ret (results_row_tmp2 Tryd.results18 _ _ _ _ rfl rfl rfl hRz Tryd.underlying23 rfl (by kernel_rfl)) rfl ⟨Hd.zero, 0, _, rfl, HRR.out.1 he9, hBz⟩
    case pos =>
      subst he9
      have Hhd := Lib.hid (head_ok HRel.out)
      obtain ⟨rfl, h4t⟩ := Hhd.out
      have h4 : 4 ≤ l.length := by rw [List.length_take] at h4t; omega
      have n4 : (4 : Int) ≤ l.length := by omega
      have n4c : (4 : Int) ≤ c := by omega
      clear h4t HRR
      have HG := Lib.hid (fun A4 c4 W hr hl ht => C3.get_any (n8 (l.drop 4)) (fun x hx => n8_lt hx) A4 c4 W hr hl ht)
      obtain ⟨N, hN⟩ : ∃ N, (C3.getR (n8 (l.drop 4))).1 = N := ⟨_, rfl⟩
      obtain ⟨S, hS⟩ : ∃ S, (C3.getR (n8 (l.drop 4))).2.1 = S := ⟨_, rfl⟩
      obtain ⟨eg, heg⟩ : ∃ eg : Int, ((C3.getR (n8 (l.drop 4))).2.2 : Int) = eg := ⟨_, rfl⟩
      rw [hN, hS, heg] at HG
      have HN := Lib.hid hN
      have HS := Lib.hid hS
      have Heg := Lib.hid heg
      clear hN hS heg
      go_upto_region 5 with fail
      clear hc1
      go_cut [7, 8, 9] (fun a b d wx => a = .int .i64 N ∧ b = .int .i64 S ∧ d = .int .i64 eg ∧ Below w5.heap.size w5 wx)
      case first =>
        have G := HG.out (if c = 4 then A else A.map (·.add 4)) (c - 4) w5 (by
          have h := ((HRd.out.below H5.out.rq.b).drop 4 c (by rw [show (bv l).length = l.length from by simp [bv]]; exact hc))
          rw [show (bv l).drop 4 = C3.nv8 (n8 (l.drop 4)) from by simp only [bv, n8, C3.nv8, List.map_map, List.map_drop]; rfl] at h
          exact h) (by simp [n8]; omega) (HTw1.out.below H5.out.rq.b).lim
        rw [show (n8 (l.drop 4)).length = l.length - 4 from by simp [n8]] at G
        have HG4 := Lib.hid G
        clear G
        go_wp2_with fail
        · have G := HG4.out
          rw [if_pos (by assumption), show c - 4 = 0 by omega] at G
          refine G.mono ?_
          clear G HG4
          rintro z w6 ⟨rfl, b6⟩
          go_wp2_with fail
          obtain rfl : c = 4 := by assumption
          go_meet
          exact ⟨rfl, rfl, rfl, b6⟩
        · have G := HG4.out
          rw [if_neg (by assumption)] at G
          refine G.mono ?_
          clear G HG4
          rintro z w6 ⟨rfl, b6⟩
          go_wp2_with fail
          go_meet
          exact ⟨rfl, rfl, rfl, b6⟩
      case rest =>
        obtain ⟨rfl, rfl, rfl, hb6⟩ := hcut
        obtain ⟨w6, hw6⟩ : ∃ w6, wc = w6 := ⟨_, rfl⟩
        rw [hw6] at hb6 ⊢
        have H6 := Lib.hid (H5.out.below hb6)
        clear hb6 hw6 HG H5
        obtain ⟨mV, hmV⟩ : ∃ m, mostV V = m := ⟨_, rfl⟩
        obtain ⟨X10, hX10⟩ : ∃ b : Bool, decide (mV ≤ (N : Int)) = b := ⟨_, rfl⟩
        obtain ⟨y10, hy10⟩ : ∃ y : Int, (if X10 then (10 : Int) else 0) = y := ⟨_, rfl⟩
        obtain ⟨e10, he10⟩ : ∃ e : Int, fstE [eg, y10] = e := ⟨_, rfl⟩
        have He10 : Hid (fstE [((C3.getR (n8 (l.drop 4))).2.2 : Int), if decide (((C3.getR (n8 (l.drop 4))).1 : Int) ≥ mostV ((x1 % 2 : Nat) == 1)) then 10 else 0] = e10) := by
          show _ = _
          rw [HN.out, Heg.out, HV.out, hmV, ← he10, ← hy10, ← hX10]
        have hmost : Hid (∀ W, Calls Tryd.prog 35 #[.bool V] W fun e w' => e = .returned (.int .i64 mV) ∧ w' = W) := fun W => hmV ▸ most_any V W
        have hwrong : Hid (∀ W, Calls Tryd.prog 34 #[.bool X10, .int .i64 10] W fun e w' => e = .returned (.int .i64 y10) ∧ w' = W) := fun W => hy10 ▸ wrong_any X10 10 W
        have hfirst : Hid (∀ A c W, Rd W A (zv [eg, y10]) → Calls Tryd.prog 33 #[.slice A 2 c] W fun e w' => e = .returned (.int .i64 e10) ∧ w' = W) := fun A c W h => he10 ▸ first_any [eg, y10] A c W h (by simp)
        clear he10 hy10 hmV
        have f0 := H6.out.h.c 0 (.bool V) rfl
        go_wp2_with fail
        refine (hmost.out _).mono ?_
        rintro z wm ⟨rfl, rfl⟩
        go_wp2_with fail
        refine (hwrong.out _).mono ?_
        rintro z wm ⟨rfl, rfl⟩
        go_wp2_with fail
        refine (hfirst.out _ _ _ (Rd.new wm #[.int .i64 eg, .int .i64 y10] 24)).mono ?_
        rintro z wm2 ⟨rfl, hwm2⟩
        have H7 : Hid (Hr w1 wm2 Q R 32 A' (l.take 16) c' 0 w.heap.size B2 ⟨V, p2, q2, p3, m3, 0, 0, 0, 0⟩) := by
          rw [hwm2]; exact H6.out.below (bal (Below.refl _ _) _)
        clear hwm2 f0 H6 hmost hwrong hfirst hX10
        have HRR : Hid ((e10 ≠ 0 → ReadRel l Hd.zero 0 e10) ∧ (e10 = 0 → ∀ bb rr at_ e x n f, TailRel l (l.take 16) p2 q2 ((4 + S) * 8) bb rr at_ e →
            (e ≠ 0 ∧ x = Hd.zero ∧ n = 0 ∧ f = e ∨ e = 0 ∧ x = ⟨V, p2, q2, p3, m3, N, bb, rr, depL.getD m3 0⟩ ∧ n = at_ + 1 ∧ f = 0) → ReadRel l x n f)) := by
          refine ⟨fun h => ⟨x1, x2, x3, 32, 0, HRel.out, .inr ⟨rfl, .inl ⟨by rw [He10.out]; exact h, rfl, rfl, He10.out.symm⟩⟩⟩, fun h bb rr at_ e x n f h1 h2 => ⟨x1, x2, x3, 32, 0, HRel.out, .inr ⟨rfl, .inr ⟨by rw [He10.out]; exact h, bb, rr, at_, e, ?_, ?_⟩⟩⟩⟩
          · rw [HS.out, hp2, hq2]; exact h1
          · rw [HN.out, HV.out, hp2, hq2, hp3, hm3]; exact h2
        have HSz : Hid (e10 = 0 → S ≤ 7 ∧ 4 + S ≤ l.length) := fun h => by
          have h1 := He10.out
          rw [h] at h1
          obtain ⟨h2, -⟩ := fstE_two _ _ h1
          obtain ⟨-, h4, h5, -⟩ := C3.getR_ok (n8 (l.drop 4)) (fun x hx => n8_lt hx) (by omega)
          rw [← h4, HS.out] at h5
          rw [HS.out] at h4
          have h6 := (C3.szN_pos (C3.getR (n8 (l.drop 4))).1).2
          simp [n8] at h5
          omega
        clear HRel He10 HN HS Heg hp2 hq2 hp3 hm3 HV
        go_upto_region 7 with fail
        by_cases he10 : e10 = 0
        case neg =>
          have he10' : (e10 != 0) = true := by rw [bne_iff_ne]; exact he10
          have RR := HRR.out.1 he10
          go_wp2_with (refine wpList_store_row (c := Hd.zero.cells) (c' := Hd.zero.cells) (t := 23) rfl 23 _ _ rfl w.heap.size rfl rfl H7.out.z (by kernel_rfl) rfl (Hd.one _) ?_)
          exact bodyPost_ret (results_row_tmp2 Tryd.results18 _ _ _ _ rfl rfl rfl (setRow_heap _ w.heap.size _ _ 23 (0, 0) H7.out.z) Tryd.underlying23 rfl (by kernel_rfl)) rfl ⟨Hd.zero, 0, e10, rfl, RR, Below.setRow (bnext Hb1.out H7.out.rq.b) (Nat.le_refl _) _⟩
        case pos =>
          subst he10
          obtain ⟨hS7, hSl⟩ := HSz.out rfl
          have HR3 := Lib.hid (HRR.out.2 rfl)
          clear HRR HSz
          have f5 := H7.out.h.c 5 (.int .i64 0) rfl
          have g5 := H7.out.fz 5
          have H8 := Lib.hid (H7.out.set 5 (.int .i64 (N : Int)) ⟨V, p2, q2, p3, m3, N, 0, 0, 0⟩ rfl)
          have k0 := H8.out.rq.c0
          go_upto_region 10 with fail
          generalize wm2.setCell ⟨B2, 5, none⟩ (.int .i64 (N : Int)) = w8 at *
          clear f5 g5 H7
          obtain ⟨T, hT⟩ : ∃ T : Nat, (4 + S) * 8 = T := ⟨_, rfl⟩
          have hTi : (4 + (S : Int)) * 8 = (T : Int) := by omega
          rw [hT] at HR3
          have hlt : (l.take 16).length = min 16 l.length := List.length_take
          have hn : ¬ ((T : Int) < 0 ∨ 8 * ((l.take 16).length : Int) < T) := by omega
          have G := Seek_any R 32 A' (l.take 16) c' T w8 H8.out.rq.rd
          rw [if_neg hn, if_neg hn, Int.toNat_natCast] at G
          have HSk := Lib.hid G
          clear G hn hlt hT
          go_wp2_with fail
          refine HSk.out.mono ?_
          rintro z w9 ⟨rfl, hr9, f9⟩
          have H9 := Lib.hid (H8.out.step (H8.out.rq.moved f9 hr9) (f9.wide fun k hk => .inr hk))
          clear hr9 f9 H8 HSk hTi k0
          have f1 := H9.out.h.c 1 (.int .i64 p2) rfl
          have f2 := H9.out.h.c 2 (.int .i64 q2) rfl
          have f4 := H9.out.h.c 4 (.int .i64 m3) rfl
          have f6 := H9.out.h.c 6 (.int .i64 0) rfl
          have f7 := H9.out.h.c 7 (.int .i64 0) rfl
          have f8 := H9.out.h.c 8 (.int .i64 0) rfl
          have g6 := H9.out.fz 6
          have g7 := H9.out.fz 7
          have g8 := H9.out.fz 8
          have t1 := (HTw1.out.below H9.out.rq.b).blk p2 bp2
          have t2 := (HTw1.out.below H9.out.rq.b).rat q2 bq2
          have t3 := (HTw1.out.below H9.out.rq.b).dep m3 bm3
          have ip2 : (p2 : Int) < 16 := by omega
          have iq2 : (q2 : Int) < 16 := by omega
          have im3 : (m3 : Int) < 8 := by omega
          obtain ⟨kb, hkb⟩ : ∃ k, blkL.getD p2 0 = k := ⟨_, rfl⟩
          obtain ⟨kr, hkr⟩ : ∃ k, ratL.getD q2 0 = k := ⟨_, rfl⟩
          obtain ⟨kd, hkd⟩ : ∃ k, depL.getD m3 0 = k := ⟨_, rfl⟩
          rw [hkb] at t1
          rw [hkr] at t2
          rw [hkd] at t3
          have Hkb := Lib.hid hkb
          have Hkr := Lib.hid hkr
          have Hkd := Lib.hid hkd
          have H12 := Lib.hid (((H9.out.set 6 (.int .i64 kb) ⟨V, p2, q2, p3, m3, N, kb, 0, 0⟩ rfl).set 7 (.int .i64 kr) ⟨V, p2, q2, p3, m3, N, kb, kr, 0⟩ rfl).set 8 (.int .i64 kd) ⟨V, p2, q2, p3, m3, N, kb, kr, kd⟩ rfl)
          have HR4 : Hid (∀ (bb rr : Int) (at_ : Nat) (e : Int) (x : Hd) (n : Nat) (f : Int), TailRel l (l.take 16) p2 q2 T bb rr at_ e → (e ≠ 0 ∧ x = Hd.zero ∧ n = 0 ∧ f = e ∨ e = 0 ∧ x = ⟨V, p2, q2, p3, m3, N, bb, rr, kd⟩ ∧ n = at_ + 1 ∧ f = 0) → ReadRel l x n f) := by
            rw [← hkd]; exact HR3.out
          clear hkb hkr hkd HR3
          have hB2 : 2 < B2 := by
            have h1 := cell_lt (HTw1.out.dep 0 (by decide))
            have h2 := H9.out.le
            omega
          have b20 : ¬ B2 = 0 := by omega
          have b21 : ¬ B2 = 1 := by omega
          have b22 : ¬ B2 = 2 := by omega
          have b02 : ¬ 0 = B2 := by omega
          have b12 : ¬ 1 = B2 := by omega
          have b32 : ¬ 2 = B2 := by omega
          clear hB2
          go_upto_region 11 with fail
          go_region
          have H13 := Lib.hid (H12.out.below ((Below.refl _ _).drew))
          clear f1 f2 f4 f6 f7 f8 g6 g7 g8 t1 t2 t3 b20 b21 b22 b02 b12 b32 ip2 iq2 im3 H9 H12
          generalize (((w9.setCell ⟨B2, 6, none⟩ (.int .i64 kb)).setCell ⟨B2, 7, none⟩ (.int .i64 kr)).setCell ⟨B2, 8, none⟩ (.int .i64 kd)).drew = w12 at *
          go_step
          go_step
          exact tail12 l A c w hl hc w1 Hb1 HRd Q R T A' c' _ B2 V p2 q2 p3 m3 N S kb kr kd H13 Hkb bp2 Hkr bq2 HR4 _ _ _ _ _ _ _ _ _ _ _ _ _ _ _ _ _ _ _ _ _ _ _ _ _ _ _ _ _ _ _ _ _ _ _ _ _ _ _ _ _ _ _ _ _ _ _ _ _ _ _ _ _ _ _ _ _ _ _ _ _ _ _ _ _ _ _ _ _ _ _ _ _ _ _ _ _ _ _ _ _ _ _ _ _ _ _ _ _ _ _ _ _ _ _ _ _ _ _ _ _ _ _ _ _ _ _ _ _ _ _ _ _ _ _ _ _ _ _ _ _ _ _ _ _ _ _ _ _ _ _ _ _ 
end Go.Proofs.YtgohfbfdhdepnaaDoor

namespace Go.Proofs.YtgohfbfdhdepnaaDoor
open Go.RowKit

set_option maxRecDepth 100000 in
set_option maxHeartbeats 8000000 in
theorem Make_any (V : Bool) (n b m rate chans depth : Int) (hbad : ¬ badM b rate depth) (w : World) (ht : HTabs w) :
    Calls Tryd.prog 15 #[.bool V, .int .i64 n, .int .i64 b, .int .i64 m, .agg #[.int .i64 rate, .int .i64 chans, .int .i64 depth]] w fun e w' => e = .returned (.tuple #[(mkR V n b m rate chans depth).val, .int .i64 (mkE V n b m rate chans depth)]) ∧ Below w.heap.size w w' := by
  have HT := Lib.hid ht
  have HE : Hid (mkE V n b m rate chans depth = if chanM m chans = 0 then chkE (mkH V n b m rate depth) else chanM m chans) := if_neg hbad
  have HMR0 : Hid (mkE V n b m rate chans depth = 0 → mkR V n b m rate chans depth = mkH V n b m rate depth) := fun h => if_pos h
  have HMR1 : Hid (mkE V n b m rate chans depth ≠ 0 → mkR V n b m rate chans depth = Hd.zero) := fun h => if_neg h
  generalize mkR V n b m rate chans depth = MR at *
  generalize mkE V n b m rate chans depth = E at *
  have hbad' : ¬ b < 1 ∧ ¬ 65535 < b ∧ ¬ rate < 0 ∧ ¬ 1048575 < rate ∧ ¬ depth < 4 ∧ ¬ 32 < depth := by unfold badM at hbad; omega
  obtain ⟨h1, h2, h3, h4, h5, h6⟩ := hbad'
  have h2' : ¬ b > 65535 := h2
  have h4' : ¬ rate > 1048575 := h4
  have h6' : ¬ depth > 32 := h6
  clear hbad ht
  have HC := Lib.hid (fun W => Channels_any m W)
  have HWr : Hid (∀ W, Calls Tryd.prog 34 #[.bool (chN m != chans), .int .i64 22] W fun e w' => e = .returned (.int .i64 (if (chN m != chans) then (22 : Int) else 0)) ∧ w' = W) := fun W => wrong_any _ 22 W
  have HCM : Hid (chanM m chans = fstE [chE m, if (chN m != chans) then (22 : Int) else 0]) := rfl
  generalize (if (chN m != chans) then (22 : Int) else 0) = yc at *
  generalize chE m = xe at *
  have HFi : Hid (∀ (g : Nat) W, W.heap[g]? = some (.cells #[.int .i64 xe, .int .i64 yc] 24 (0, 0)) → Calls Tryd.prog 33 #[.slice (some ⟨g, 0, none⟩) 2 2] W fun e w' => e = .returned (.int .i64 (chanM m chans)) ∧ w' = W) := fun g W hg => by rw [HCM.out]; exact first_any [xe, yc] _ 2 W (rd_row hg _ rfl) (by show 2 ≤ 100; omega)
  clear HCM
  generalize chanM m chans = C at *
  obtain ⟨w2, hw2⟩ : ∃ w2, (w.alloc (.cells #[.int .i64 rate, .int .i64 chans, .int .i64 depth] 38)).alloc (.cells Hd.zero.cells 23) = w2 := ⟨_, rfl⟩
  have hs2 : w2.heap.size = w.heap.size + 1 + 1 := by rw [← hw2]; simp
  have hp2 : w2.heap[w.heap.size]? = some (.cells #[.int .i64 rate, .int .i64 chans, .int .i64 depth] 38 (0, 0)) := by rw [← hw2]; exact hrow_alloc (heap_alloc_last w _) _
  have hr2 : HdAt w2 (w.heap.size + 1) Hd.zero := by
    have h := heap_alloc_last (w.alloc (.cells #[.int .i64 rate, .int .i64 chans, .int .i64 depth] 38)) (.cells Hd.zero.cells 23)
    rw [World.size_alloc] at h
    rw [← hw2]
    exact h
  have hb2 : Below w.heap.size w w2 := by rw [← hw2]; exact bal (bal (Below.refl _ _) _) _
  have hq1 := cell_of_row w2 _ 0 _ _ _ hp2
  have hq2 := cell_of_row w2 _ 1 _ _ _ hp2
  have hq3 := cell_of_row w2 _ 2 _ _ _ hp2
  simp only [List.getElem?_toArray, List.getElem?_cons_zero, List.getElem?_cons_succ] at hq1 hq2 hq3
  simp only [Hd.zero, Hd.cells] at hw2
  have Hw2 := Lib.hid hw2
  have Hs2 := Lib.hid hs2
  clear hw2 hs2
  go_enter Tryd.func15, Tryd.ntmps15
  go_upto_region 1 with fail
  rw [Hw2.out]
  go_wp2_with fail
  refine (HC.out _).mono ?_
  rintro e w2' ⟨rfl, rfl⟩
  go_wp2_with fail
  refine (HWr.out _).mono ?_
  rintro e w2' ⟨rfl, rfl⟩
  go_wp2_with fail
  refine (HFi.out _ _ (heap_alloc_last _ _)).mono ?_
  rintro e w3 ⟨rfl, rfl⟩
  obtain ⟨w3, hw3⟩ : ∃ w3, w2'.alloc (.cells #[.int .i64 xe, .int .i64 yc] 24) = w3 := ⟨_, rfl⟩
  have hs3 : w3.heap.size = w.heap.size + 1 + 1 + 1 := by rw [← hw3, World.size_alloc, Hs2.out]
  have hb3 : Below w.heap.size w w3 := by rw [← hw3]; exact bal hb2 _
  have hr3 : HdAt w3 (w.heap.size + 1) Hd.zero := by rw [← hw3]; exact hrow_alloc hr2 _
  have hp3 : w3.heap[w.heap.size]? = some (.cells #[.int .i64 rate, .int .i64 chans, .int .i64 depth] 38 (0, 0)) := by rw [← hw3]; exact hrow_alloc hp2 _
  rw [hw3]
  clear hw3 hq1 hq2 hq3 hb2 hr2 hp2 Hs2 HFi HWr HC Hw2
  by_cases hC : C = 0
  case neg =>
    have hE : E = C := by rw [HE.out, if_neg hC]
    have hC' : (C != 0) = true := by rw [bne_iff_ne]; exact hC
    have HF : Hid ((Ending.returned (.tuple #[.agg Hd.zero.cells, .int .i64 C]) : Ending) = .returned (.tuple #[MR.val, .int .i64 E])) := by
      show _ = _
      rw [HMR1.out (by rw [hE]; exact hC), hE]; rfl
    clear HE hE hC HMR0 HMR1
    go_wp2_with (refine wpList_store_row (c := Hd.zero.cells) (c' := Hd.zero.cells) (t := 23) rfl 23 _ _ rfl (w.heap.size + 1) rfl rfl hr3 (by kernel_rfl) rfl (Hd.one _) ?_)
    exact bodyPost_ret (results_row_tmp (cs := Hd.zero.cells) (t := 23) (fr := (0, 0)) (g := w.heap.size + 1) Tryd.results15 _ _ _ rfl rfl (setRow_heap _ (w.heap.size + 1) _ _ 23 (0, 0) hr3) Tryd.underlying23 rfl (by kernel_rfl)) rfl ⟨HF.out, Below.setRow hb3 (Nat.le_succ _) _⟩
  subst hC
  have hE : Hid (E = chkE (mkH V n b m rate depth)) := by show _ = _; rw [HE.out, if_pos rfl]
  clear HE
  have HIb : Hid (∀ W, Below w.heap.size w W → Calls Tryd.prog 43 #[.slice (some ⟨0, 0, none⟩) 16 16, .int .i64 b] W fun e w' => e = .returned (.int .i64 (idxL blkL b)) ∧ w' = W) := fun W hb => Index_any blkL _ 16 b W (rd_tab blkL (HT.out.below hb).blk) (by decide)
  have HIr : Hid (∀ W, Below w.heap.size w W → Calls Tryd.prog 43 #[.slice (some ⟨1, 0, none⟩) 16 16, .int .i64 rate] W fun e w' => e = .returned (.int .i64 (idxL ratL rate)) ∧ w' = W) := fun W hb => Index_any ratL _ 16 rate W (rd_tab ratL (HT.out.below hb).rat) (by decide)
  have HId : Hid (∀ W, Below w.heap.size w W → Calls Tryd.prog 43 #[.slice (some ⟨2, 0, none⟩) 8 8, .int .i64 depth] W fun e w' => e = .returned (.int .i64 (idxL depL depth)) ∧ w' = W) := fun W hb => Index_any depL _ 8 depth W (rd_tab depL (HT.out.below hb).dep) (by decide)
  have Hbc : Hid (bcOf b = if idxL blkL b < 0 then 7 - (bitV (decide (b ≤ 256)) : Int) else idxL blkL b) := rfl
  have Hrc : Hid (rcOf rate = if idxL ratL rate < 0 then rcAt rate 3 else idxL ratL rate) := rfl
  have Hdc : Hid (dcOf depth = max 0 (idxL depL depth)) := rfl
  have Hdc8 : Hid (dcOf depth < 8) := dcOf_lt depth
  have Hmk : Hid (mkH V n b m rate depth = ⟨V, bcOf b, rcOf rate, m, dcOf depth, n, b, if 0 < rcOf rate then rate else 0, depL.getD (dcOf depth).toNat 0⟩) := rfl
  generalize mkH V n b m rate depth = MH at *
  generalize bcOf b = bc at *
  generalize rcOf rate = rc at *
  generalize dcOf depth = dc at *
  generalize idxL blkL b = ib at *
  generalize idxL ratL rate = ir at *
  generalize idxL depL depth = id at *
  have HN := Lib.hid (fun (h : Hd) => Mk.new hs3 hp3 hr3 hb3 h)
  have Hb3 := Lib.hid hb3
  clear hb3 hr3 hp3
  go_upto_if 73 with fail
  refine (HIb.out _ (bal Hb3.out _)).mono ?_
  rintro e w4 ⟨rfl, rfl⟩
  clear HIb
  go_upto_if 73 with fail
  go_cut [] (fun wx => Mk w wx rate chans depth ⟨V, bc, 0, m, 0, n, b, 0, 0⟩)
  case first =>
    by_cases hi : ib < 0
    · have hbc : bc = 7 - (bitV (decide (b ≤ 256)) : Int) := by rw [Hbc.out, if_pos hi]
      go_wp2_with fail
      refine (bit_any _ _).mono ?_
      rintro e w5 ⟨rfl, rfl⟩
      have hq1 : bitV (decide (b ≤ 256)) ≤ 1 := by unfold bitV; split <;> omega
      generalize bitV (decide (b ≤ 256)) = q at *
      go_wp2_with fail
      go_meet
      have hw : wrap64 (7 - (q : Int)) = 7 - q := by unfold wrap64; omega
      try rw [hw]
      rw [hbc]
      exact HN.out ⟨V, 7 - (q : Int), 0, m, 0, n, b, 0, 0⟩
    · have hbc : bc = ib := by rw [Hbc.out, if_neg hi]
      go_wp2_with fail
      go_meet
      rw [hbc]
      exact HN.out ⟨V, ib, 0, m, 0, n, b, 0, 0⟩
  case rest =>
    obtain ⟨w5, hw5⟩ : ∃ w5, wc = w5 := ⟨_, rfl⟩
    rw [hw5] at hcut ⊢
    clear hw5
    have HM := Lib.hid hcut
    clear hcut HN Hbc hs3
    go_upto_region 11 with fail
    have hp0 := HM.out.p0
    refine wp_region_still_tail 5 (by kernel_rfl) (by kernel_rfl) ?_
    simp only [List.take_succ_cons, List.take_zero, List.drop_succ_cons, List.drop_zero]
    repeat still_step
    still_call (HIr.out _ HM.out.b.drew)
    repeat still_step
    refine wpStill_nil ?_
    change wpList _ _ _ _ _ w5.drew
    have HM6 : Hid (Mk w w5.drew rate chans depth ⟨V, bc, 0, m, 0, n, b, 0, 0⟩) := HM.out.below (Below.refl _ _).drew
    clear HM hp0 HIr
    generalize w5.drew = w6 at *
    have hf := HM6.out.fz 2
    have hf2 := HM6.out.h.c 2 (.int .i64 0) rfl
    have HM7 : Hid (Mk w (w6.setCell ⟨w.heap.size + 1 + 1 + 1, 2, none⟩ (.int .i64 ir)) rate chans depth ⟨V, bc, ir, m, 0, n, b, 0, 0⟩) := HM6.out.set 2 _ _ rfl
    have hc2 := HM7.out.h.c 2 (.int .i64 ir) rfl
    go_upto_if 86 with fail
    obtain ⟨w7, hw7⟩ : ∃ w7, w6.setCell ⟨w.heap.size + 1 + 1 + 1, 2, none⟩ (.int .i64 ir) = w7 := ⟨_, rfl⟩
    rw [hw7] at HM7 ⊢
    clear hw7 hc2 hf hf2 HM6
    go_cut [15, 16] (fun _ _ wx => Mk w wx rate chans depth ⟨V, bc, rc, m, 0, n, b, 0, 0⟩)
    case first =>
      by_cases hi : ir < 0
      · have hrc : Hid (rc = rcAt rate 3) := by show _ = _; rw [Hrc.out, if_pos hi]
        have hd : decide (ir < 0) = true := decide_eq_true hi
        rw [hd]
        clear Hrc Hdc hd
        have hf7 := HM7.out.fz 2
        have hc7 := HM7.out.h.c 2 (.int .i64 ir) rfl
        have HM8 : Hid (Mk w (w7.setCell ⟨w.heap.size + 1 + 1 + 1, 2, none⟩ (.int .i64 0)) rate chans depth ⟨V, bc, 0, m, 0, n, b, 0, 0⟩) := HM7.out.set 2 _ _ rfl
        go_upto_region 14 with fail
        clear hf7 hc7 HM7
        generalize w7.setCell ⟨w.heap.size + 1 + 1 + 1, 2, none⟩ (.int .i64 0) = w8 at *
        go_wp2_with fail
        go_loopw [15, 16] (fun c p wr => ∃ k : Nat, k ≤ 3 ∧ c = .int .i64 (14 - (k : Int)) ∧ Hid (Mk w wr rate chans depth ⟨V, bc, rcAt rate k, m, 0, n, b, 0, 0⟩)) (fun c _ _ => (intOf c - 11).toNat)
        case atStart => exact ⟨0, by omega, by simp, HM8⟩
        case round =>
          obtain ⟨k, hk, rfl, HMk⟩ := hrel
          have hp0 := HMk.out.p0
          by_cases hkk : k < 3
          · have hge : decide ((14 - (k : Int)) ≥ 12) = true := decide_eq_true (by omega)
            have Hcn : Hid (rcAt rate (k + 1) = if rFits (14 - (k : Int)) rate then 14 - (k : Int) else rcAt rate k) := rfl
            have HRf := Lib.hid (fun W (hb : Below w.heap.size w W) => rateFits_any ⟨false, 0, 14 - (k : Int), 0, 0, 0, 0, rate, 0⟩ (by show 0 ≤ 14 - (k : Int); omega) (by show 14 - (k : Int) < 16; omega) (by show rate ≤ _; omega) W (HT.out.below hb))
            simp only [Hd.val] at HRf
            generalize rFits (14 - (k : Int)) rate = bb at *
            obtain ⟨c, hc⟩ : ∃ c : Int, 14 - (k : Int) = c := ⟨_, rfl⟩
            rw [hc] at hge HRf Hcn ⊢
            have hc12 : c ≥ 12 := by omega
            have hc15 : c ≤ 14 := by omega
            have Hc := Lib.hid hc
            clear hc
            go_wp2_with fail
            refine (HRf.out _ (bal HMk.out.b _)).mono ?_
            rintro e w9 ⟨rfl, hb9⟩
            have HM9 : Hid (Mk w w9 rate chans depth ⟨V, bc, rcAt rate k, m, 0, n, b, 0, 0⟩) := HMk.out.below (bnext (bal (Below.refl _ _) _) hb9)
            clear HMk hp0 hb9
            have hf9 := HM9.out.fz 2
            have hc9 := HM9.out.h.c 2 (.int .i64 (rcAt rate k)) rfl
            cases bb
            · have hn : rcAt rate (k + 1) = rcAt rate k := Hcn.out
              go_wp2_with fail
              go_roundw
              case rel =>
                refine ⟨k + 1, by omega, ?_, ?_⟩
                · have := Hc.out
                  rw [show ((k + 1 : Nat) : Int) = (k : Int) + 1 from by omega, show c - 1 = 14 - ((k : Int) + 1) from by omega]
                · rw [hn]; exact HM9
              case measure => simp [intOf] <;> omega
            · have hn : rcAt rate (k + 1) = c := Hcn.out
              have HM10 : Hid (Mk w (w9.setCell ⟨w.heap.size + 1 + 1 + 1, 2, none⟩ (.int .i64 c)) rate chans depth ⟨V, bc, c, m, 0, n, b, 0, 0⟩) := HM9.out.set 2 _ _ rfl
              go_wp2_with fail
              go_roundw
              case rel =>
                refine ⟨k + 1, by omega, ?_, ?_⟩
                · have := Hc.out
                  rw [show ((k + 1 : Nat) : Int) = (k : Int) + 1 from by omega, show c - 1 = 14 - ((k : Int) + 1) from by omega]
                · rw [hn]; exact HM10
              case measure => simp [intOf] <;> omega
          · obtain rfl : k = 3 := by omega
            go_wp2_with fail
            go_meet
            rw [hrc.out]
            exact HMk.out
      · have hrc : rc = ir := by rw [Hrc.out, if_neg hi]
        subst hrc
        go_wp2_with fail
        go_meet
        exact HM7.out
    case rest =>
      obtain ⟨w8, hw8⟩ : ∃ w8, wc = w8 := ⟨_, rfl⟩
      rw [hw8] at hcut ⊢
      clear hw8
      have HM := Lib.hid hcut
      clear hcut Hrc HM7
      go_upto_region 20 with fail
      have hp2 := HM.out.p2
      refine wp_region_still_tail 4 (by kernel_rfl) (by kernel_rfl) ?_
      simp only [List.take_succ_cons, List.take_zero, List.drop_succ_cons, List.drop_zero]
      repeat still_step
      still_call (HId.out _ HM.out.b.drew)
      refine wpStill_nil ?_
      change wpList _ _ _ _ _ w8.drew
      have HM9 : Hid (Mk w w8.drew rate chans depth ⟨V, bc, rc, m, 0, n, b, 0, 0⟩) := HM.out.below (Below.refl _ _).drew
      clear HM hp2 HId
      generalize w8.drew = w9 at *
      have hf := HM9.out.fz 4
      have hf2 := HM9.out.h.c 4 (.int .i64 0) rfl
      have hf3 := HM9.out.h.c 2 (.int .i64 rc) rfl
      have HM10 : Hid (Mk w (w9.setCell ⟨w.heap.size + 1 + 1 + 1, 4, none⟩ (.int .i64 dc)) rate chans depth ⟨V, bc, rc, m, dc, n, b, 0, 0⟩) := HM9.out.set 4 _ _ rfl
      have hmax : (if 0 < id then id else (0 : Int)) = dc := by rw [Hdc.out]; split <;> omega
      have hdc0 : 0 ≤ dc := by rw [Hdc.out]; omega
      go_upto_if 108 with fail
      obtain ⟨w10, hw10⟩ : ∃ w10, w9.setCell ⟨w.heap.size + 1 + 1 + 1, 4, none⟩ (.int .i64 dc) = w10 := ⟨_, rfl⟩
      try rw [hmax]
      rw [hw10] at HM10 ⊢
      clear hw10 hf hf2 hf3 hmax HM9 Hdc
      have hp0 := HM10.out.p0
      go_cut [] (fun wx => Mk w wx rate chans depth ⟨V, bc, rc, m, dc, n, b, if 0 < rc then rate else 0, 0⟩)
      case first =>
        by_cases hr : 0 < rc
        · have hr' : rc > 0 := hr
          have hf := HM10.out.fz 7
          have hf2 := HM10.out.h.c 7 (.int .i64 0) rfl
          have hrw : (if 0 < rc then rate else 0) = rate := if_pos hr
          go_wp2_with fail
          go_meet
          rw [hrw]
          exact HM10.out.set 7 _ _ rfl
        · have hr' : ¬ rc > 0 := hr
          have hrw : (if 0 < rc then rate else 0) = 0 := if_neg hr
          go_wp2_with fail
          go_meet
          rw [hrw]
          exact HM10.out
      case rest =>
        obtain ⟨w11, hw11⟩ : ∃ w11, wc = w11 := ⟨_, rfl⟩
        rw [hw11] at hcut ⊢
        clear hw11
        have HM := Lib.hid hcut
        have hrr : (if 0 < rc then rate else 0) ≤ 9223372036854775807 := by split <;> omega
        generalize (if 0 < rc then rate else 0) = rr at *
        clear hcut HM10 hp0
        obtain ⟨dn, rfl⟩ : ∃ dn : Nat, dc = dn := ⟨dc.toNat, by omega⟩
        rw [Int.toNat_natCast] at Hmk
        have hdn : (dn : Int) < 8 := Hdc8.out
        have hdd := (HT.out.below HM.out.b).dep dn (by omega)
        generalize depL.getD dn 0 = dd at *
        have hf := HM.out.fz 8
        have hf2 := HM.out.h.c 8 (.int .i64 0) rfl
        have hf3 := HM.out.h.c 4 (.int .i64 dn) rfl
        have HM12 : Hid (Mk w (w11.setCell ⟨w.heap.size + 1 + 1 + 1, 8, none⟩ (.int .i64 dd)) rate chans depth MH) := by rw [Hmk.out]; exact HM.out.set 8 _ _ rfl
        have HCk := Lib.hid (fun W (hb : Below w.heap.size w W) => Check_any MH (by rw [Hmk.out]; exact hrr) W (HT.out.below hb))
        rw [← hE.out] at HCk
        go_upto_region 24 with fail
        clear hf hf2 hf3 hdd HM hdn
        generalize w11.setCell ⟨w.heap.size + 1 + 1 + 1, 8, none⟩ (.int .i64 dd) = w12 at *
        have HMR1' : Hid (E ≠ 0 → MR = Hd.zero) := HMR1.out
        have HMR0' : Hid (E = 0 → MR = MH) := HMR0.out
        clear HMR0 HMR1 Hmk hE HT Hdc8 Hb3
        go_wp2_with (refine wpList_load_row rfl 23 _ rfl (w.heap.size + 1 + 1 + 1) rfl 23 MH.cells (0, 0) _ HM12.out.h Tryd.underlying23 rfl (by kernel_rfl) ?_)
        refine (HCk.out _ HM12.out.b).mono ?_
        rintro e w13 ⟨rfl, hb13⟩
        have HM13 : Hid (Mk w w13 rate chans depth MH) := HM12.out.below hb13
        clear HM12 hb13 HCk
        by_cases hz : E = 0
        · subst hz
          obtain rfl := HMR0'.out rfl
          go_wp2_with (first | (refine wpList_load_row rfl 23 _ rfl (w.heap.size + 1 + 1 + 1) rfl 23 MR.cells (0, 0) _ HM13.out.h Tryd.underlying23 rfl (by kernel_rfl) ?_) | (refine wpList_store_row (c := Hd.zero.cells) (c' := MR.cells) (t := 23) rfl 23 _ _ rfl (w.heap.size + 1) rfl rfl HM13.out.r (by kernel_rfl) rfl (Hd.one _) ?_))
          exact bodyPost_ret (results_row_tmp (cs := MR.cells) (t := 23) (fr := (0, 0)) (g := w.heap.size + 1) Tryd.results15 _ _ _ rfl rfl (setRow_heap _ (w.heap.size + 1) _ _ 23 (0, 0) HM13.out.r) Tryd.underlying23 rfl (by kernel_rfl)) rfl ⟨rfl, Below.setRow HM13.out.b (Nat.le_succ _) _⟩
        · obtain rfl := HMR1'.out hz
          have hz' : (E != 0) = true := by rw [bne_iff_ne]; exact hz
          clear hz
          go_wp2_with (refine wpList_store_row (c := Hd.zero.cells) (c' := Hd.zero.cells) (t := 23) rfl 23 _ _ rfl (w.heap.size + 1) rfl rfl HM13.out.r (by kernel_rfl) rfl (Hd.one _) ?_)
          exact bodyPost_ret (results_row_tmp (cs := Hd.zero.cells) (t := 23) (fr := (0, 0)) (g := w.heap.size + 1) Tryd.results15 _ _ _ rfl rfl (setRow_heap _ (w.heap.size + 1) _ _ 23 (0, 0) HM13.out.r) Tryd.underlying23 rfl (by kernel_rfl)) rfl ⟨rfl, Below.setRow HM13.out.b (Nat.le_succ _) _⟩
end Go.Proofs.YtgohfbfdhdepnaaDoor

namespace Go.Proofs.YtgohfbfdhdepnaaDoor
open Go.RowKit

/-- What appends onto a slice turn. -/
structure FrL (v v' : Value) (w w' : World) : Prop where
  fr : Fr (fun k => v.ownBlock = some k) w w'
  nxt : v'.ownBlock = v.ownBlock ∨ ∃ k, v'.ownBlock = some k ∧ w.heap.size ≤ k
theorem FrL.refl (v : Value) (w : World) : FrL v v w w := ⟨Fr.refl _ _, .inl rfl⟩
theorem FrL.of {v : Value} {w w' : World} (h : Below w.heap.size w w') : FrL v v w w' := ⟨Fr.of h, .inl rfl⟩
theorem FrL.trans {v v' v2 : Value} {a b c : World} (h : FrL v v' a b) (k : FrL v' v2 b c) : FrL v v2 a c := by
  refine ⟨⟨k.fr.os.trans h.fr.os, k.fr.tape.trans h.fr.tape, k.fr.output.trans h.fr.output, Nat.le_trans h.fr.size k.fr.size, fun i hi hs => ?_⟩, ?_⟩
  · refine (k.fr.block i (Nat.lt_of_lt_of_le hi h.fr.size) ?_).trans (h.fr.block i hi hs)
    intro h1
    rcases h.nxt with e | ⟨g, e, hg⟩
    · exact hs (e.symm.trans h1)
    · rw [e] at h1; injection h1 with h1; omega
  · rcases k.nxt with e | ⟨g, e, hg⟩
    · rcases h.nxt with e2 | ⟨g, e2, hg⟩
      · exact .inl (e.trans e2)
      · exact .inr ⟨g, e.trans e2, hg⟩
    · exact .inr ⟨g, e, Nat.le_trans h.fr.size hg⟩
theorem FrL.next {v v' : Value} {a b c : World} (h : FrL v v' a b) (k : Below b.heap.size b c) : FrL v v' a c := h.trans (FrL.of k)
theorem FrL.below {v v' : Value} {w a b : World} {B s n : Nat} {e : TypeId} {xs : List Value} (h : FrL v v' a b) (hw : Below w.heap.size w a) (ho : a.ownsRow B e s v n xs) (hB : w.heap.size ≤ B) : Below w.heap.size w b :=
  h.fr.below hw fun k hk => Nat.le_trans hB (ho.lt k hk).1
/-- A row of one's own, put aside: another type's row is not it. -/
theorem own_ne {w : World} {B B' s s' n n' : Nat} {e e' : TypeId} {v v' : Value} {xs xs' : List Value} (h : w.ownsRow B e s v n xs) (h' : w.ownsRow B' e' s' v' n' xs') (hne : e ≠ e') : ∀ k, v.ownBlock = some k → ¬ v'.ownBlock = some k := by
  intro k hk hk'
  rcases h.2 with ⟨rfl, -⟩ | ⟨g, cap, cur, rfl, hb, hg, -⟩
  · cases hk
  · have e : g = k := by injection hk
    subst e
    rcases h'.2 with ⟨rfl, -⟩ | ⟨g2, cap2, cur2, rfl, hb2, hg2, -⟩
    · cases hk'
    · have e2 : g2 = g := by injection hk'
      subst e2
      rw [hg2] at hg
      simp at hg
      exact hne hg.2.symm
theorem own_fr {S : Nat → Prop} {w w' : World} {B n s : Nat} {e : TypeId} {v : Value} {xs : List Value} (ho : w.ownsRow B e s v n xs) (f : Fr S w w') (hs : ∀ k, v.ownBlock = some k → ¬ S k) : w'.ownsRow B e s v n xs := by
  refine ⟨ho.1, ?_⟩
  rcases ho.2 with e | ⟨g, cap, cur, rfl, hb, hg, hn⟩
  · exact .inl e
  · exact .inr ⟨g, cap, cur, rfl, hb, f.row hg (hs g rfl), hn⟩
/-- A row of numbers is not a Writer's. -/
theorem Wtr.notRow {w : World} {R : Nat} {bs : List Nat} {u : Value} (h : Wtr w R bs u) {B s n : Nat} {e : TypeId} {v : Value} {xs : List Value} (ho : w.ownsRow B e s v n xs) (h1 : e ≠ 87) (h2 : e ≠ 5) : ∀ k, WS R u k → ¬ v.ownBlock = some k := by
  intro k hk hv
  rcases hk with rfl | hk
  · rcases ho.2 with ⟨rfl, -⟩ | ⟨g, cap, cur, rfl, hb, hg, -⟩
    · cases hv
    · have e : g = k := by injection hv
      subst e
      rw [h.row] at hg
      simp at hg
      exact h1 hg.2.symm
  · exact own_ne ho h.own h2 k hv hk
theorem Wtr.keepRow {w w' : World} {R : Nat} {bs : List Nat} {u : Value} (h : Wtr w R bs u) {B s n : Nat} {e : TypeId} {v v' : Value} {xs : List Value} (ho : w.ownsRow B e s v n xs) (h1 : e ≠ 87) (h2 : e ≠ 5) (f : FrL v v' w w') : Wtr w' R bs u :=
  h.keep f.fr (h.notRow ho h1 h2)
theorem own_keepWtr {w w' : World} {R : Nat} {bs : List Nat} {u u' : Value} (h : Wtr w R bs u) {B s n : Nat} {e : TypeId} {v : Value} {xs : List Value} (ho : w.ownsRow B e s v n xs) (h1 : e ≠ 87) (h2 : e ≠ 5) (f : FrW R u u' w w') : w'.ownsRow B e s v n xs :=
  own_fr ho f.fr (fun k hv hk => h.notRow ho h1 h2 k hk hv)

/-- append of a slice (nil, empty or not) onto a row of the call's own, with what turns. -/
theorem appNg {P : Program} {W : World} {ops : Array Oper} {rest : List Oper} {o : Oper} {a : Act} {Q : Exit → Act → World → Prop} (hgd : o.guard = none) (s x : Operand) (t : TypeId)
    (ho : o.op = .call { callee := .builtin .append, args := #[s, x], argTypes := #[t, t] })
    {base : Nat} {e : TypeId} {z : Value} {bytes : Nat} (ht : P.underlying t = some (.slice e)) (hi : (P.info? e).map (fun i => (i.zero, i.size, i.bytes)) = some (some z, 1, bytes)) (hzs : z.cells.size = 1)
    {v : Value} {n : Nat} {xs : List Value} (hs : a.eval s = v) (hown : W.ownsRow base e 1 v n xs) (hbW : base ≤ W.heap.size)
    {A : Option Addr} {m c : Nat} {ys : List Value} (hx : a.eval x = .slice A m c) (hr : Rd W A ys) (hl : ys.length = m) (hnil : A = none → c = 0) (h1 : ∀ u ∈ ys, u.oneCell' = true)
    (hbytes : (n + m) * bytes ≤ 140737488355328) (h63 : n + m ≤ maxLen)
    (h : ∀ v' w1, w1.ownsRow base e 1 v' (n + m) (xs ++ ys) → FrL v v' W w1 → wpList P ops Q rest (a.put o.dst v') w1) :
    wpList P ops Q (o :: rest) a W := by
  obtain ⟨i, hi, hz0, hz1, hz2⟩ := info_parts hi
  cases A with
  | none =>
    have hm : ys = [] := by
      cases ys with
      | nil => rfl
      | cons y l => obtain ⟨_, _, e, _⟩ := hr 0 y rfl; cases e
    subst hm
    obtain rfl : m = 0 := by simpa using hl.symm
    rw [hnil rfl] at hx
    refine wpList_append_own_none hgd s x t ho base e i 1 ht hi v n xs hs hown hx ?_
    exact h v W (by simpa using hown) (FrL.refl _ _)
  | some ad =>
    refine wpList_append_own_at W hgd s x t ho base e i z 1 bytes ht hi hz0 hz1 hz2 hzs (by decide) v n xs hs hown ad m c ys hx (by omega) ?_ h1 h63 hbytes hbW ?_
    · intro j u hu
      obtain ⟨b, o, e, hc⟩ := hr j u hu
      injection e with e
      subst e
      rw [show (⟨b, o, none⟩ : Addr).add j = ⟨b, o + j, none⟩ from by unfold Addr.add; split <;> simp_all]
      exact hc
    · intro v' w1 hown1 g _ hat
      refine h v' w1 hown1 ⟨⟨g.os, g.tape, g.output, g.size, fun k hk hs => g.block k hk (fun e => hs e.symm)⟩, ?_⟩
      rcases hat with e | e
      · exact .inl e
      · exact .inr ⟨_, e, Nat.le_refl _⟩
/-- .. of one element, with what turns. -/
theorem frL_grown {W w1 : World} {v v' : Value} (g : W.grownBy w1 v.ownBlock) (hat : v'.ownBlock = v.ownBlock ∨ ∃ k, v'.ownBlock = some k ∧ W.heap.size ≤ k) : FrL v v' W w1 :=
  ⟨⟨g.os, g.tape, g.output, g.size, fun k hk hs => g.block k hk (fun e => hs e.symm)⟩, hat⟩
end Go.Proofs.YtgohfbfdhdepnaaDoor
