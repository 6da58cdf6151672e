/-
  jetsamlaw11.InfoOf: its walk. (Printed by wip/gen/infof.py.)
-/
import Derived.Test.YtikgpohoggpldaaMono
import Derived.Test.YtikgpohoggpldaaInfAw
import Derived.Test.YtikgpohoggpldaaInfOf2
import Derived.Test.YtikgpohoggpldaaTwoRows
namespace Go.Proofs.Ytikgpohoggpldaa
open Go.RowKit

theorem info_int : (Try.prog.info? 3).map (fun i => (i.zero, i.size, i.bytes)) = some (some (.int .i64 0), 1, 8) := by kernel_rfl
theorem zv_snoc (l : List Int) (x : Int) : zv (l ++ [x]) = zv l ++ [.int .i64 x] := by simp [zv]
theorem ofR_info (w : World) (p0 p1 p2 : Int) (s : Nat → Int) (l : List (Int × Int)) : (binOp .eql 34 (.agg (ofR p0 p1 p2 s l)) (.agg (ofR p0 p1 p2 s l))).run Try.prog w = .ok (.bool true) w := eql_info w _ _ _ _ _ _ _ _ _

theorem wp_bin {P : Program} {o : Oper} {a : Act} {w : World} {K : Act → World → Prop} {Q : Exit → Act → World → Prop} (b : BinOp) (T : TypeId) (x y : Operand) (T2 : TypeId) (ho : o.op = .binOp b T x y T2) {xs ys : Array Value} {z : Value} (hx : a.eval x = .agg xs) (hy : a.eval y = .agg ys) (hm : P.eqGuardType P.depth T = false)
    (hr : (binOp b T (.agg xs) (.agg ys)).run P w = .ok z w) (h : K (a.put o.dst z) w) : o.wp P a w K Q := by
  unfold Oper.wp execOp
  simp only [ho, hx, hy, Sem.run_bind, Sem.run_pure, Result.andThen_ok, run_eqGuard_agg (w := w) (hm := hm), hr]
  exact h

set_option maxRecDepth 100000 in
set_option maxHeartbeats 1000000 in
theorem infoOf_walk (p0 p1 p2 : Int) (s : Nat → Int) (l : List (Int × Int)) (A : Option Addr) (c : Nat) (w : World) (hr : RdP w A l) (hc : l.length ≤ c) (hlen : l.length ≤ 9223372036854775807) :
    Calls Try.prog 3 #[.agg #[.int .i64 p0, .int .i64 p1, .int .i64 p2], .agg #[.int .u8 (s 0), .int .u8 (s 1), .int .u8 (s 2), .int .u8 (s 3), .int .u8 (s 4), .int .u8 (s 5), .int .u8 (s 6), .int .u8 (s 7), .int .u8 (s 8), .int .u8 (s 9), .int .u8 (s 10), .int .u8 (s 11), .int .u8 (s 12), .int .u8 (s 13), .int .u8 (s 14), .int .u8 (s 15)], .slice A l.length c] w fun e w' => e = .returned (.bool true) ∧ Below w.heap.size w w' := by
  have Hr := Lib.hid hr; clear hr
  go_enter Try.func3, Try.ntmps3
  obtain ⟨w3, hw3, hb3, hP, hS⟩ : ∃ w3, (w.alloc (.cells #[.int .i64 p0, .int .i64 p1, .int .i64 p2] 23)).alloc (.cells #[.int .u8 (s 0), .int .u8 (s 1), .int .u8 (s 2), .int .u8 (s 3), .int .u8 (s 4), .int .u8 (s 5), .int .u8 (s 6), .int .u8 (s 7), .int .u8 (s 8), .int .u8 (s 9), .int .u8 (s 10), .int .u8 (s 11), .int .u8 (s 12), .int .u8 (s 13), .int .u8 (s 14), .int .u8 (s 15)] 24) = w3 ∧ Below w.heap.size w w3 ∧ w3.heap[w.heap.size]? = some (.cells #[.int .i64 p0, .int .i64 p1, .int .i64 p2] 23 (0, 0)) ∧ w3.heap[w.heap.size + 1]? = some (.cells #[.int .u8 (s 0), .int .u8 (s 1), .int .u8 (s 2), .int .u8 (s 3), .int .u8 (s 4), .int .u8 (s 5), .int .u8 (s 6), .int .u8 (s 7), .int .u8 (s 8), .int .u8 (s 9), .int .u8 (s 10), .int .u8 (s 11), .int .u8 (s 12), .int .u8 (s 13), .int .u8 (s 14), .int .u8 (s 15)] 24 (0, 0)) :=
    ⟨_, rfl, by repeat (first | exact Below.refl _ _ | assumption | refine below_drewN ?_ _ | refine Below.drew ?_ | refine Below.alloc ?_ (Nat.le_refl _) _ | refine bal ?_ _ | refine bnext ?_ (by assumption)), hrow_alloc (heap_alloc_last _ _) _, by have := heap_alloc_last (w.alloc (.cells #[.int .i64 p0, .int .i64 p1, .int .i64 p2] 23)) (.cells #[.int .u8 (s 0), .int .u8 (s 1), .int .u8 (s 2), .int .u8 (s 3), .int .u8 (s 4), .int .u8 (s 5), .int .u8 (s 6), .int .u8 (s 7), .int .u8 (s 8), .int .u8 (s 9), .int .u8 (s 10), .int .u8 (s 11), .int .u8 (s 12), .int .u8 (s 13), .int .u8 (s 14), .int .u8 (s 15)] 24); rwa [show (w.alloc (.cells #[.int .i64 p0, .int .i64 p1, .int .i64 p2] 23)).heap.size = w.heap.size + 1 from by simp] at this⟩
  have HP := Lib.hid hP
  have HS := Lib.hid hS
  clear hP hS
  go_wp2_with fail
  try clear hw3
  have hR1 : w.heap.size + 1 < w3.heap.size := (Array.getElem?_eq_some_iff.1 HS.out).1
  have hR0 : w.heap.size < w3.heap.size := (Array.getElem?_eq_some_iff.1 HP.out).1
  have Hr3 : Hid (RdP w3 A l) := Hr.out.below hb3
  clear Hr
  refine (few_any l A c w3 Hr3.out hlen).mono ?_
  rintro e w4 ⟨rfl, hb4⟩
  obtain ⟨fb, hfb⟩ : ∃ b, fewB l = b := ⟨_, rfl⟩
  rw [hfb]
  cases fb with
  | false =>
    go_wp2_with fail
    refine (awake_any _).mono ?_
    rintro e w5 ⟨rfl, hb5⟩
    go_wp2_with fail
    go_ret
    exact ⟨rfl, bnext (bnext hb3 hb4) hb5⟩
  | true =>
    obtain ⟨hf, hok⟩ := (fewB_iff l).1 hfb
    have Hfb := Lib.hid hfb
    have Hok := Lib.hid hok
    clear hfb hok
    have Hr4 : Hid (RdP w4 A l) := Hr3.out.below hb4
    clear Hr3
    go_wp2_with fail
    obtain ⟨B, hB⟩ : ∃ B, w4.heap.size = B := ⟨_, rfl⟩
    have hBw := Nat.le_of_eq hB.symm
    have HB := Lib.hid hB
    clear hB
    go_loopw [7, 8, 9] (fun u v i wr => ∃ k : Nat, k ≤ l.length ∧ i = .int .i64 k ∧ Below w4.heap.size w4 wr ∧ w4.heap.size ≤ wr.heap.size ∧ Hid (wr.ownsRow w4.heap.size 3 1 u k (zv ((l.take k).map (·.1)))) ∧ Hid (wr.ownsRow w4.heap.size 3 1 v k (zv ((l.take k).map (·.2)))) ∧ Hid (v.ownBlock = none ∨ v.ownBlock ≠ u.ownBlock)) (fun _ _ i _ => l.length - (intOf i).toNat)
    case atStart => exact ⟨0, by omega, rfl, Below.refl _ _, Nat.le_refl _, World.ownsRow_nil w4 w4.heap.size _ 1, World.ownsRow_nil w4 w4.heap.size _ 1, .inl rfl⟩
    case round =>
      obtain ⟨k, hk, rfl, hb, hsz, Hu, Hv, Hap⟩ := hrel
      by_cases hkk : k < l.length
      · obtain ⟨b, o, rfl, hc1, hc2⟩ := (Hr4.out.below hb) k _ (at_bk l k hkk)
        have Ht1 : Hid (zv ((l.take (k + 1)).map (·.1)) = zv ((l.take k).map (·.1)) ++ [.int .i64 (bk l k)]) := by
          show _ = _
          rw [List.take_succ_eq_append_getElem hkk, List.map_append, List.map_singleton, zv_snoc]
          simp [bk, List.getD_eq_getElem?_getD, List.getElem?_eq_getElem hkk]
        have Ht2 : Hid (zv ((l.take (k + 1)).map (·.2)) = zv ((l.take k).map (·.2)) ++ [.int .i64 (by' l k)]) := by
          show _ = _
          rw [List.take_succ_eq_append_getElem hkk, List.map_append, List.map_singleton, zv_snoc]
          simp [by', List.getD_eq_getElem?_getD, List.getElem?_eq_getElem hkk]
        have hxy := at_bk l k hkk
        generalize bk l k = x at *
        generalize by' l k = y at *
        have hl1 := cell_lt hc1
        have HQ : Hid (∀ W, Below w4.heap.size w4 W → W.cell? ⟨b, o + k * 2 + 1, none⟩ = some (.int .i64 y)) := by
          intro W hW
          obtain ⟨b', o', e, -, h2⟩ := Hr4.out k _ hxy
          injection e with e; injection e with e1 e2; subst e1; subst e2
          exact (hW.cell (p := ⟨b, o + k * 2 + 1, none⟩) (cell_lt h2)).trans h2
        clear hc2 hxy
        go_upto_region 9 with (at_builtin; refine app1o (w0 := w4) rfl _ _ 28 rfl Try.underlying28 info_int rfl (by decide) rfl Hu.out (Nat.le_refl _) hsz hb rfl rfl (one_int _ _) (by omega) (by unfold maxLen; omega) ?_; intro u1 w5 own1 hb1 hs1 hgr1 hat1)
        have hk1 := row_kept (v := u7) (v' := u1) Hv.out Hap.out hgr1 hat1
        have Hk1 := Lib.hid hk1.1
        have Hap1 := Lib.hid hk1.2
        have Hown1 := Lib.hid own1
        clear hk1 hgr1 hat1 own1 Hu Hv Hap hb hsz
        have hcy := HQ.out w5 hb1
        clear HQ hc1
        go_wp2_with (at_builtin; refine app1o (w0 := w4) rfl _ _ 28 rfl Try.underlying28 info_int rfl (by decide) rfl Hk1.out (Nat.le_refl _) hs1 hb1 rfl rfl (one_int _ _) (by omega) (by unfold maxLen; omega) ?_; intro v1 w6 own2 hb2 hs2 hgr2 hat2; have hk2 := row_kept (v := u8) (v' := v1) Hown1.out (apart_symm Hap1.out) hgr2 hat2; have Hk2 := Lib.hid hk2.1; have Hap2 := Lib.hid (apart_symm hk2.2); have Hown2 := Lib.hid own2; clear hk2 hgr2 hat2 own2)
        go_roundw
        case rel =>
          refine ⟨k + 1, by omega, by go_num, hb2, hs2, ?_, ?_, Hap2.out⟩
          · rw [Ht1.out]; exact Hk2.out
          · rw [Ht2.out]; exact Hown2.out
        case measure => simp [intOf] <;> omega
      · obtain rfl : k = l.length := by omega
        obtain ⟨A1, c1, rfl, hc1, hr1⟩ := own_rd Hu.out
        obtain ⟨A2, c2, rfl, hc2, hr2⟩ := own_rd Hv.out
        rw [List.take_of_length_le (Nat.le_refl _)] at hr1 hr2
        have Hr1 := Lib.hid hr1
        have Hr2 := Lib.hid hr2
        clear hr1 hr2 Hu Hv Hap
        go_wp2_with fail
        refine (refOf_any l A1 A2 c1 c2 _ Hr1.out Hr2.out hc1 hc2 hf Hok.out).mono ?_
        rintro e w7 ⟨rfl, hb7⟩
        obtain ⟨m0, hm0⟩ : ∃ z, mnR l.length (bk l) l.length = z := ⟨_, rfl⟩
        obtain ⟨m1, hm1⟩ : ∃ z, mxP (bk l) l.length = z := ⟨_, rfl⟩
        obtain ⟨m2, hm2⟩ : ∃ z, knI (mfR (by' l) l.length) = z := ⟨_, rfl⟩
        obtain ⟨m3, hm3⟩ : ∃ z, knI (xfP (by' l) l.length) = z := ⟨_, rfl⟩
        obtain ⟨m4, hm4⟩ : ∃ z, ttP (bk l) l.length = z := ⟨_, rfl⟩
        have Hof : Hid (ofR p0 p1 p2 s l = #[.int .i64 (p0), .int .i64 (p1), .int .i64 (p2), .int .i64 (m0), .int .i64 (m1), .int .i64 (m2), .int .i64 (m3), .int .i64 (m4), .int .u8 (s 0), .int .u8 (s 1), .int .u8 (s 2), .int .u8 (s 3), .int .u8 (s 4), .int .u8 (s 5), .int .u8 (s 6), .int .u8 (s 7), .int .u8 (s 8), .int .u8 (s 9), .int .u8 (s 10), .int .u8 (s 11), .int .u8 (s 12), .int .u8 (s 13), .int .u8 (s 14), .int .u8 (s 15)]) := by
          show _ = _
          unfold ofR
          rw [hm0, hm1, hm2, hm3, hm4]
          rfl
        rw [hm0, hm1, hm2, hm3, hm4]
        clear hm0 hm1 hm2 hm3 hm4
        simp only [arV]
        have hb8 : Below w.heap.size w (w7.alloc (.cells (arV m0 m1 m2 m3 m4) 31)) := bal (bnext (bnext (bnext hb3 hb4) hb) hb7) _
        have hb38 : Below w3.heap.size w3 (w7.alloc (.cells (arV m0 m1 m2 m3 m4) 31)) := bal (bnext (bnext hb4 hb) hb7) _
        have hb48 : Below w4.heap.size w4 (w7.alloc (.cells (arV m0 m1 m2 m3 m4) 31)) := bal (bnext hb hb7) _
        have hM : ArAt (w7.alloc (.cells (arV m0 m1 m2 m3 m4) 31)) w7.heap.size m0 m1 m2 m3 m4 := ArAt.new rfl
        have hMl := hM.lt
        go_wp2_with fail
        simp only [arV] at hb8 hb38 hb48 hM hMl
        generalize w7.alloc (.cells #[.int .i64 m0, .int .i64 m1, .int .i64 m2, .int .i64 m3, .int .i64 m4] 31) = w8 at *
        have Q0 : Hid (∀ W, Below w8.heap.size w8 W → W.heap[w.heap.size]? = some (.cells #[.int .i64 p0, .int .i64 p1, .int .i64 p2] 23 (0, 0))) := fun W hW => (hW.block _ (Nat.lt_of_lt_of_le hR0 hb38.size)).trans ((hb38.block _ hR0).trans HP.out)
        have Q1 : Hid (∀ W, Below w8.heap.size w8 W → W.heap[w.heap.size + 1]? = some (.cells #[.int .u8 (s 0), .int .u8 (s 1), .int .u8 (s 2), .int .u8 (s 3), .int .u8 (s 4), .int .u8 (s 5), .int .u8 (s 6), .int .u8 (s 7), .int .u8 (s 8), .int .u8 (s 9), .int .u8 (s 10), .int .u8 (s 11), .int .u8 (s 12), .int .u8 (s 13), .int .u8 (s 14), .int .u8 (s 15)] 24 (0, 0))) := fun W hW => (hW.block _ (Nat.lt_of_lt_of_le hR1 hb38.size)).trans ((hb38.block _ hR1).trans HS.out)
        have Q2 : Hid (∀ W, Below w8.heap.size w8 W → ArAt W w7.heap.size m0 m1 m2 m3 m4) := fun W hW => (hW.block _ hMl).trans hM
        have Q3 : Hid (∀ W, Below w8.heap.size w8 W → RdP W A l) := fun W hW => (Hr4.out.below hb48).below hW
        have Heq : Hid (∀ W, (binOp .eql 34 (.agg #[.int .i64 (p0), .int .i64 (p1), .int .i64 (p2), .int .i64 (m0), .int .i64 (m1), .int .i64 (m2), .int .i64 (m3), .int .i64 (m4), .int .u8 (s 0), .int .u8 (s 1), .int .u8 (s 2), .int .u8 (s 3), .int .u8 (s 4), .int .u8 (s 5), .int .u8 (s 6), .int .u8 (s 7), .int .u8 (s 8), .int .u8 (s 9), .int .u8 (s 10), .int .u8 (s 11), .int .u8 (s 12), .int .u8 (s 13), .int .u8 (s 14), .int .u8 (s 15)]) (.agg #[.int .i64 (p0), .int .i64 (p1), .int .i64 (p2), .int .i64 (m0), .int .i64 (m1), .int .i64 (m2), .int .i64 (m3), .int .i64 (m4), .int .u8 (s 0), .int .u8 (s 1), .int .u8 (s 2), .int .u8 (s 3), .int .u8 (s 4), .int .u8 (s 5), .int .u8 (s 6), .int .u8 (s 7), .int .u8 (s 8), .int .u8 (s 9), .int .u8 (s 10), .int .u8 (s 11), .int .u8 (s 12), .int .u8 (s 13), .int .u8 (s 14), .int .u8 (s 15)])).run Try.prog W = .ok (.bool true) W) := fun W => Hof.out ▸ ofR_info W p0 p1 p2 s l
        clear hM hb48 HP HS hf Hok Hr4 hb hsz hc1 hc2 Hr1 Hr2 hkk hk
        refine wp_region_specs [
          Spec.val (.agg #[.int .i64 p0, .int .i64 p1, .int .i64 p2]),
          Spec.val (.agg #[.int .u8 (s 0), .int .u8 (s 1), .int .u8 (s 2), .int .u8 (s 3), .int .u8 (s 4), .int .u8 (s 5), .int .u8 (s 6), .int .u8 (s 7), .int .u8 (s 8), .int .u8 (s 9), .int .u8 (s 10), .int .u8 (s 11), .int .u8 (s 12), .int .u8 (s 13), .int .u8 (s 14), .int .u8 (s 15)]),
          Spec.val (.slice A l.length c),
          Spec.val (.agg #[.int .i64 (p0), .int .i64 (p1), .int .i64 (p2), .int .i64 (m0), .int .i64 (m1), .int .i64 (m2), .int .i64 (m3), .int .i64 (m4), .int .u8 (s 0), .int .u8 (s 1), .int .u8 (s 2), .int .u8 (s 3), .int .u8 (s 4), .int .u8 (s 5), .int .u8 (s 6), .int .u8 (s 7), .int .u8 (s 8), .int .u8 (s 9), .int .u8 (s 10), .int .u8 (s 11), .int .u8 (s 12), .int .u8 (s 13), .int .u8 (s 14), .int .u8 (s 15)]),
          Spec.val (.agg #[.int .i64 p0, .int .i64 p1, .int .i64 p2]),
          Spec.val (.pointer (some ⟨w7.heap.size, 0, none⟩)),
          Spec.val (.int .i64 m0),
          Spec.val (.pointer (some ⟨w7.heap.size, 1, none⟩)),
          Spec.val (.int .i64 m1),
          Spec.val (.pointer (some ⟨w7.heap.size, 2, none⟩)),
          Spec.val (.int .i64 m2),
          Spec.val (.pointer (some ⟨w7.heap.size, 3, none⟩)),
          Spec.val (.int .i64 m3),
          Spec.val (.pointer (some ⟨w7.heap.size, 4, none⟩)),
          Spec.val (.int .i64 m4),
          Spec.val (.agg #[.int .u8 (s 0), .int .u8 (s 1), .int .u8 (s 2), .int .u8 (s 3), .int .u8 (s 4), .int .u8 (s 5), .int .u8 (s 6), .int .u8 (s 7), .int .u8 (s 8), .int .u8 (s 9), .int .u8 (s 10), .int .u8 (s 11), .int .u8 (s 12), .int .u8 (s 13), .int .u8 (s 14), .int .u8 (s 15)]),
          Spec.val (.agg #[.int .i64 (p0), .int .i64 (p1), .int .i64 (p2), .int .i64 (m0), .int .i64 (m1), .int .i64 (m2), .int .i64 (m3), .int .i64 (m4), .int .u8 (s 0), .int .u8 (s 1), .int .u8 (s 2), .int .u8 (s 3), .int .u8 (s 4), .int .u8 (s 5), .int .u8 (s 6), .int .u8 (s 7), .int .u8 (s 8), .int .u8 (s 9), .int .u8 (s 10), .int .u8 (s 11), .int .u8 (s 12), .int .u8 (s 13), .int .u8 (s 14), .int .u8 (s 15)]),
          Spec.val (.bool true),
          Spec.val (.bool true),
          Spec.val (.bool true),
          Spec.val (.bool true),
          Spec.val (.bool true)] w8 (by kernel_rfl) (by repeat (first | exact Below.refl _ _ | assumption | refine below_drewN ?_ _ | refine Below.drew ?_ | refine Below.alloc ?_ (Nat.le_refl _) _ | refine bal ?_ _ | refine bnext ?_ (by assumption))) (n := 61) rfl (by decide +kernel) ⟨?_, ?_, ?_, ?_, ?_, ?_, ?_, ?_, ?_, ?_, ?_, ?_, ?_, ?_, ?_, ?_, ?_, ?_, ?_, ?_, ?_, ?_, trivial⟩ ?_
        · intro a wd hJ hfr hdep
          have s3 : a.tmps.getD 3 undef = .pointer (some ⟨w.heap.size, 0, none⟩) := (hfr 3 (by decide)).trans rfl
          have s3' := slot' s3
          clear hfr hdep
          refine if_wanted rfl (fun Q => op_any (fun K hK => ?_))
          exact wp_load_row 23 _ rfl w.heap.size s3 23 _ (0, 0) _ (Q0.out wd hJ) Try.underlying23 rfl (by kernel_rfl) (hK _ _ rfl hJ (Below.refl _ _))
        · intro a wd hJ hfr hdep
          have s4 : a.tmps.getD 4 undef = .pointer (some ⟨w.heap.size + 1, 0, none⟩) := (hfr 4 (by decide)).trans rfl
          have s4' := slot' s4
          clear hfr hdep
          refine if_wanted rfl (fun Q => op_any (fun K hK => ?_))
          exact wp_load_row 24 _ rfl (w.heap.size + 1) s4 24 _ (0, 0) _ (Q1.out wd hJ) Try.underlying24 rfl (by kernel_rfl) (hK _ _ rfl hJ (Below.refl _ _))
        · intro a wd hJ hfr hdep
          have s2 : a.tmps.getD 2 undef = .slice A l.length c := (hfr 2 (by decide)).trans rfl
          have s2' := slot' s2
          clear hfr hdep
          refine if_wanted rfl (fun Q => op_any (fun K hK => ?_))
          go_simp
          exact hK _ _ rfl hJ (Below.refl _ _)
        · intro a wd hJ hfr hdep
          have s40 : a.tmps.getD 40 undef = .agg #[.int .i64 p0, .int .i64 p1, .int .i64 p2] := hdep 0 _ 40 (by decide) rfl rfl
          have s41 : a.tmps.getD 41 undef = .agg #[.int .u8 (s 0), .int .u8 (s 1), .int .u8 (s 2), .int .u8 (s 3), .int .u8 (s 4), .int .u8 (s 5), .int .u8 (s 6), .int .u8 (s 7), .int .u8 (s 8), .int .u8 (s 9), .int .u8 (s 10), .int .u8 (s 11), .int .u8 (s 12), .int .u8 (s 13), .int .u8 (s 14), .int .u8 (s 15)] := hdep 1 _ 41 (by decide) rfl rfl
          have s42 : a.tmps.getD 42 undef = .slice A l.length c := hdep 2 _ 42 (by decide) rfl rfl
          have s40' := slot' s40
          have s41' := slot' s41
          have s42' := slot' s42
          clear hfr hdep
          refine if_wanted rfl (fun Q => op_any (fun K hK => ?_))
          go_simp
          refine (Of_ref p0 p1 p2 s l A c _ (Q3.out _ hJ) hc Hfb.out).mono ?_
          rintro e w1 ⟨rfl, hb1⟩
          exact hK _ _ (congrArg Value.agg Hof.out) (bnext hJ hb1) hb1
        · intro a wd hJ hfr hdep
          have s3 : a.tmps.getD 3 undef = .pointer (some ⟨w.heap.size, 0, none⟩) := (hfr 3 (by decide)).trans rfl
          have s3' := slot' s3
          clear hfr hdep
          refine if_wanted rfl (fun Q => op_any (fun K hK => ?_))
          exact wp_load_row 23 _ rfl w.heap.size s3 23 _ (0, 0) _ (Q0.out wd hJ) Try.underlying23 rfl (by kernel_rfl) (hK _ _ rfl hJ (Below.refl _ _))
        · intro a wd hJ hfr hdep
          have s10 : a.tmps.getD 10 undef = .pointer (some ⟨w7.heap.size, 0, none⟩) := (hfr 10 (by decide)).trans rfl
          have s10' := slot' s10
          clear hfr hdep
          refine if_wanted rfl (fun Q => op_any (fun K hK => ?_))
          go_simp
          exact hK _ _ rfl hJ (Below.refl _ _)
        · intro a wd hJ hfr hdep
          have s45 : a.tmps.getD 45 undef = .pointer (some ⟨w7.heap.size, 0, none⟩) := hdep 5 _ 45 (by decide) rfl rfl
          have s45' := slot' s45
          clear hfr hdep
          refine if_wanted rfl (fun Q => op_any (fun K hK => ?_))
          have hx := (Q2.out wd hJ).cell 0 _ rfl
          go_simp
          exact hK _ _ rfl hJ (Below.refl _ _)
        · intro a wd hJ hfr hdep
          have s10 : a.tmps.getD 10 undef = .pointer (some ⟨w7.heap.size, 0, none⟩) := (hfr 10 (by decide)).trans rfl
          have s10' := slot' s10
          clear hfr hdep
          refine if_wanted rfl (fun Q => op_any (fun K hK => ?_))
          go_simp
          exact hK _ _ rfl hJ (Below.refl _ _)
        · intro a wd hJ hfr hdep
          have s47 : a.tmps.getD 47 undef = .pointer (some ⟨w7.heap.size, 1, none⟩) := hdep 7 _ 47 (by decide) rfl rfl
          have s47' := slot' s47
          clear hfr hdep
          refine if_wanted rfl (fun Q => op_any (fun K hK => ?_))
          have hx := (Q2.out wd hJ).cell 1 _ rfl
          go_simp
          exact hK _ _ rfl hJ (Below.refl _ _)
        · intro a wd hJ hfr hdep
          have s10 : a.tmps.getD 10 undef = .pointer (some ⟨w7.heap.size, 0, none⟩) := (hfr 10 (by decide)).trans rfl
          have s10' := slot' s10
          clear hfr hdep
          refine if_wanted rfl (fun Q => op_any (fun K hK => ?_))
          go_simp
          exact hK _ _ rfl hJ (Below.refl _ _)
        · intro a wd hJ hfr hdep
          have s49 : a.tmps.getD 49 undef = .pointer (some ⟨w7.heap.size, 2, none⟩) := hdep 9 _ 49 (by decide) rfl rfl
          have s49' := slot' s49
          clear hfr hdep
          refine if_wanted rfl (fun Q => op_any (fun K hK => ?_))
          have hx := (Q2.out wd hJ).cell 2 _ rfl
          go_simp
          exact hK _ _ rfl hJ (Below.refl _ _)
        · intro a wd hJ hfr hdep
          have s10 : a.tmps.getD 10 undef = .pointer (some ⟨w7.heap.size, 0, none⟩) := (hfr 10 (by decide)).trans rfl
          have s10' := slot' s10
          clear hfr hdep
          refine if_wanted rfl (fun Q => op_any (fun K hK => ?_))
          go_simp
          exact hK _ _ rfl hJ (Below.refl _ _)
        · intro a wd hJ hfr hdep
          have s51 : a.tmps.getD 51 undef = .pointer (some ⟨w7.heap.size, 3, none⟩) := hdep 11 _ 51 (by decide) rfl rfl
          have s51' := slot' s51
          clear hfr hdep
          refine if_wanted rfl (fun Q => op_any (fun K hK => ?_))
          have hx := (Q2.out wd hJ).cell 3 _ rfl
          go_simp
          exact hK _ _ rfl hJ (Below.refl _ _)
        · intro a wd hJ hfr hdep
          have s10 : a.tmps.getD 10 undef = .pointer (some ⟨w7.heap.size, 0, none⟩) := (hfr 10 (by decide)).trans rfl
          have s10' := slot' s10
          clear hfr hdep
          refine if_wanted rfl (fun Q => op_any (fun K hK => ?_))
          go_simp
          exact hK _ _ rfl hJ (Below.refl _ _)
        · intro a wd hJ hfr hdep
          have s53 : a.tmps.getD 53 undef = .pointer (some ⟨w7.heap.size, 4, none⟩) := hdep 13 _ 53 (by decide) rfl rfl
          have s53' := slot' s53
          clear hfr hdep
          refine if_wanted rfl (fun Q => op_any (fun K hK => ?_))
          have hx := (Q2.out wd hJ).cell 4 _ rfl
          go_simp
          exact hK _ _ rfl hJ (Below.refl _ _)
        · intro a wd hJ hfr hdep
          have s4 : a.tmps.getD 4 undef = .pointer (some ⟨w.heap.size + 1, 0, none⟩) := (hfr 4 (by decide)).trans rfl
          have s4' := slot' s4
          clear hfr hdep
          refine if_wanted rfl (fun Q => op_any (fun K hK => ?_))
          exact wp_load_row 24 _ rfl (w.heap.size + 1) s4 24 _ (0, 0) _ (Q1.out wd hJ) Try.underlying24 rfl (by kernel_rfl) (hK _ _ rfl hJ (Below.refl _ _))
        · intro a wd hJ hfr hdep
          have s44 : a.tmps.getD 44 undef = .agg #[.int .i64 p0, .int .i64 p1, .int .i64 p2] := hdep 4 _ 44 (by decide) rfl rfl
          have s46 : a.tmps.getD 46 undef = .int .i64 m0 := hdep 6 _ 46 (by decide) rfl rfl
          have s48 : a.tmps.getD 48 undef = .int .i64 m1 := hdep 8 _ 48 (by decide) rfl rfl
          have s50 : a.tmps.getD 50 undef = .int .i64 m2 := hdep 10 _ 50 (by decide) rfl rfl
          have s52 : a.tmps.getD 52 undef = .int .i64 m3 := hdep 12 _ 52 (by decide) rfl rfl
          have s54 : a.tmps.getD 54 undef = .int .i64 m4 := hdep 14 _ 54 (by decide) rfl rfl
          have s55 : a.tmps.getD 55 undef = .agg #[.int .u8 (s 0), .int .u8 (s 1), .int .u8 (s 2), .int .u8 (s 3), .int .u8 (s 4), .int .u8 (s 5), .int .u8 (s 6), .int .u8 (s 7), .int .u8 (s 8), .int .u8 (s 9), .int .u8 (s 10), .int .u8 (s 11), .int .u8 (s 12), .int .u8 (s 13), .int .u8 (s 14), .int .u8 (s 15)] := hdep 15 _ 55 (by decide) rfl rfl
          have s44' := slot' s44
          have s46' := slot' s46
          have s48' := slot' s48
          have s50' := slot' s50
          have s52' := slot' s52
          have s54' := slot' s54
          have s55' := slot' s55
          clear hfr hdep
          refine if_wanted rfl (fun Q => op_any (fun K hK => ?_))
          go_simp
          exact hK _ _ rfl hJ (Below.refl _ _)
        · intro a wd hJ hfr hdep
          have s43 : a.tmps.getD 43 undef = .agg #[.int .i64 (p0), .int .i64 (p1), .int .i64 (p2), .int .i64 (m0), .int .i64 (m1), .int .i64 (m2), .int .i64 (m3), .int .i64 (m4), .int .u8 (s 0), .int .u8 (s 1), .int .u8 (s 2), .int .u8 (s 3), .int .u8 (s 4), .int .u8 (s 5), .int .u8 (s 6), .int .u8 (s 7), .int .u8 (s 8), .int .u8 (s 9), .int .u8 (s 10), .int .u8 (s 11), .int .u8 (s 12), .int .u8 (s 13), .int .u8 (s 14), .int .u8 (s 15)] := hdep 3 _ 43 (by decide) rfl rfl
          have s56 : a.tmps.getD 56 undef = .agg #[.int .i64 (p0), .int .i64 (p1), .int .i64 (p2), .int .i64 (m0), .int .i64 (m1), .int .i64 (m2), .int .i64 (m3), .int .i64 (m4), .int .u8 (s 0), .int .u8 (s 1), .int .u8 (s 2), .int .u8 (s 3), .int .u8 (s 4), .int .u8 (s 5), .int .u8 (s 6), .int .u8 (s 7), .int .u8 (s 8), .int .u8 (s 9), .int .u8 (s 10), .int .u8 (s 11), .int .u8 (s 12), .int .u8 (s 13), .int .u8 (s 14), .int .u8 (s 15)] := hdep 16 _ 56 (by decide) rfl rfl
          have s43' := slot' s43
          have s56' := slot' s56
          clear hfr hdep
          refine if_wanted rfl (fun Q => op_any (fun K hK => ?_))
          exact wp_bin .eql 34 _ _ _ rfl s43 s56 (by kernel_rfl) (Heq.out wd) (hK _ _ rfl hJ (Below.refl _ _))
        · intro a wd hJ hfr hdep
          have s57 : a.tmps.getD 57 undef = .bool true := hdep 17 _ 57 (by decide) rfl rfl
          have s57' := slot' s57
          clear hfr hdep
          refine if_wanted rfl (fun Q => op_any (fun K hK => ?_))
          go_simp
          exact hK _ _ rfl hJ (Below.refl _ _)
        · intro a wd hJ hfr hdep
          have sg : a.tmps.getD 58 undef = .bool true := hdep 18 _ 58 (by decide) rfl rfl
          clear hfr hdep
          refine if_wanted (wanted_yes rfl rfl rfl sg) (fun Q => op_any (fun K hK => ?_))
          go_simp
          refine (awake_any _).mono ?_
          rintro e w1 ⟨rfl, hb1⟩
          exact hK _ _ rfl (bnext hJ hb1) hb1
        · intro a wd hJ hfr hdep
          have s58 : a.tmps.getD 58 undef = .bool true := hdep 18 _ 58 (by decide) rfl rfl
          have s59 : a.tmps.getD 59 undef = .bool true := hdep 19 _ 59 (by decide) rfl rfl
          have s58' := slot' s58
          have s59' := slot' s59
          clear hfr hdep
          refine if_wanted rfl (fun Q => op_any (fun K hK => ?_))
          go_simp
          exact hK _ _ rfl hJ (Below.refl _ _)
        · intro a wd hJ hfr hdep
          have s60 : a.tmps.getD 60 undef = .bool true := hdep 20 _ 60 (by decide) rfl rfl
          have s60' := slot' s60
          clear hfr hdep
          refine if_wanted rfl (fun Q => op_any (fun K hK => ?_))
          go_simp
          exact hK _ _ rfl hJ (Below.refl _ _)
        intro f w' hJ hR
        have e0 : f 0 = .agg #[.int .i64 p0, .int .i64 p1, .int .i64 p2] := hR 0 (by decide)
        have e1 : f 1 = .agg #[.int .u8 (s 0), .int .u8 (s 1), .int .u8 (s 2), .int .u8 (s 3), .int .u8 (s 4), .int .u8 (s 5), .int .u8 (s 6), .int .u8 (s 7), .int .u8 (s 8), .int .u8 (s 9), .int .u8 (s 10), .int .u8 (s 11), .int .u8 (s 12), .int .u8 (s 13), .int .u8 (s 14), .int .u8 (s 15)] := hR 1 (by decide)
        have e2 : f 2 = .slice A l.length c := hR 2 (by decide)
        have e3 : f 3 = .agg #[.int .i64 (p0), .int .i64 (p1), .int .i64 (p2), .int .i64 (m0), .int .i64 (m1), .int .i64 (m2), .int .i64 (m3), .int .i64 (m4), .int .u8 (s 0), .int .u8 (s 1), .int .u8 (s 2), .int .u8 (s 3), .int .u8 (s 4), .int .u8 (s 5), .int .u8 (s 6), .int .u8 (s 7), .int .u8 (s 8), .int .u8 (s 9), .int .u8 (s 10), .int .u8 (s 11), .int .u8 (s 12), .int .u8 (s 13), .int .u8 (s 14), .int .u8 (s 15)] := hR 3 (by decide)
        have e4 : f 4 = .agg #[.int .i64 p0, .int .i64 p1, .int .i64 p2] := hR 4 (by decide)
        have e5 : f 5 = .pointer (some ⟨w7.heap.size, 0, none⟩) := hR 5 (by decide)
        have e6 : f 6 = .int .i64 m0 := hR 6 (by decide)
        have e7 : f 7 = .pointer (some ⟨w7.heap.size, 1, none⟩) := hR 7 (by decide)
        have e8 : f 8 = .int .i64 m1 := hR 8 (by decide)
        have e9 : f 9 = .pointer (some ⟨w7.heap.size, 2, none⟩) := hR 9 (by decide)
        have e10 : f 10 = .int .i64 m2 := hR 10 (by decide)
        have e11 : f 11 = .pointer (some ⟨w7.heap.size, 3, none⟩) := hR 11 (by decide)
        have e12 : f 12 = .int .i64 m3 := hR 12 (by decide)
        have e13 : f 13 = .pointer (some ⟨w7.heap.size, 4, none⟩) := hR 13 (by decide)
        have e14 : f 14 = .int .i64 m4 := hR 14 (by decide)
        have e15 : f 15 = .agg #[.int .u8 (s 0), .int .u8 (s 1), .int .u8 (s 2), .int .u8 (s 3), .int .u8 (s 4), .int .u8 (s 5), .int .u8 (s 6), .int .u8 (s 7), .int .u8 (s 8), .int .u8 (s 9), .int .u8 (s 10), .int .u8 (s 11), .int .u8 (s 12), .int .u8 (s 13), .int .u8 (s 14), .int .u8 (s 15)] := hR 15 (by decide)
        have e16 : f 16 = .agg #[.int .i64 (p0), .int .i64 (p1), .int .i64 (p2), .int .i64 (m0), .int .i64 (m1), .int .i64 (m2), .int .i64 (m3), .int .i64 (m4), .int .u8 (s 0), .int .u8 (s 1), .int .u8 (s 2), .int .u8 (s 3), .int .u8 (s 4), .int .u8 (s 5), .int .u8 (s 6), .int .u8 (s 7), .int .u8 (s 8), .int .u8 (s 9), .int .u8 (s 10), .int .u8 (s 11), .int .u8 (s 12), .int .u8 (s 13), .int .u8 (s 14), .int .u8 (s 15)] := hR 16 (by decide)
        have e17 : f 17 = .bool true := hR 17 (by decide)
        have e18 : f 18 = .bool true := hR 18 (by decide)
        have e19 : f 19 = .bool true := hR 19 (by decide)
        have e20 : f 20 = .bool true := hR 20 (by decide)
        have e21 : f 21 = .bool true := hR 21 (by decide)
        clear hR
        simp only [finA, Act.put, List.setIfInBounds_toArray, List.set_cons_succ, List.set_cons_zero, Nat.reduceAdd, e0, e1, e2, e3, e4, e5, e6, e7, e8, e9, e10, e11, e12, e13, e14, e15, e16, e17, e18, e19, e20, e21]
        clear e0 e1 e2 e3 e4 e5 e6 e7 e8 e9 e10 e11 e12 e13 e14 e15 e16 e17 e18 e19 e20 e21
        have hend : Below w.heap.size w w' := bnext hb8 hJ
        go_wp2_with fail
        go_ret
        exact ⟨rfl, hend⟩
end Go.Proofs.Ytikgpohoggpldaa
