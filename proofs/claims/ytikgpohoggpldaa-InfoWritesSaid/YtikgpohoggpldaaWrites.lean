/-
  jetsamlaw11.InfoWrites: its walk. (Printed by wip/gen/writes.py.)
-/
import Derived.Test.YtikgpohoggpldaaWrLaw
namespace Go.Proofs.Ytikgpohoggpldaa
open Go.RowKit

set_option maxHeartbeats 800000 in
theorem bytes_any (l m : List Nat) (A B : Option Addr) (c d : Nat) (w : World) (hl : Rd w A (nv8 l)) (hm : Rd w B (nv8 m)) (h63 : l.length < 9223372036854775807) :
    Calls Try.prog 20 #[.slice A l.length c, .slice B m.length d] w fun e w' => e = .returned (.bool (decide (l = m))) ∧ Below w.heap.size w w' := by
  have Hl := Lib.hid hl; clear hl
  have Hm := Lib.hid hm; clear hm
  by_cases hlen : l.length = m.length
  · have hx : ((l.length : Int) != (m.length : Int)) = false := by rw [bne_eq_false_iff_eq]; omega
    have Hlen := Lib.hid hlen
    clear hlen
    go_enter Try.func20, Try.ntmps20
    go_wp2_with fail
    go_loopw [5] (fun i wr => ∃ k : Nat, k ≤ l.length ∧ i = .int .i64 k ∧ Below w.heap.size w wr ∧ Hid (l.take k = m.take k)) (fun i _ => l.length - (intOf i).toNat)
    case atStart => exact ⟨0, by omega, rfl, Below.refl _ _, by simp [Hid]⟩
    case round =>
      obtain ⟨k, hk, rfl, hb, Ht⟩ := hrel
      by_cases hkk : k < l.length
      · have hkm : k < m.length := by have := Hlen.out; omega
        obtain ⟨b1, o1, rfl, hc1⟩ := (Hl.out.below hb) k (.int .u8 l[k]) (by simp [nv8, hkk])
        obtain ⟨b2, o2, rfl, hc2⟩ := (Hm.out.below hb) k (.int .u8 m[k]) (by simp [nv8, hkm])
        have hi0 : (0 : Int) ≤ (k : Int) := by omega
        have hi1 : (k : Int) < l.length := by omega
        have hi2 : (k : Int) < m.length := by omega
        have Hs : Hid (l[k] = m[k] → l.take (k + 1) = m.take (k + 1)) := by
          intro h
          rw [List.take_succ_eq_append_getElem hkk, List.take_succ_eq_append_getElem hkm, Ht.out, h]
        have Hn : Hid (l[k] ≠ m[k] → l ≠ m) := by
          intro h e; subst e; exact h rfl
        generalize l[k] = x at *
        generalize m[k] = y at *
        by_cases hxy : x = y
        · have Hxy := Lib.hid hxy
          have hq : ((x : Int) != (y : Int)) = false := by rw [bne_eq_false_iff_eq]; omega
          clear hxy
          go_wp2_with fail
          go_quiet (fail)
          go_wp2_with fail
          go_roundw
          case rel => exact ⟨k + 1, by omega, by go_num, by repeat (first | exact Below.refl _ _ | assumption | refine below_drewN ?_ _ | refine Below.drew ?_ | refine Below.alloc ?_ (Nat.le_refl _) _ | refine bal ?_ _ | refine bnext ?_ (by assumption)), Hs.out Hxy.out⟩
          case measure => simp [intOf] <;> omega
        · have Hxy := Lib.hid hxy
          have hq : ((x : Int) != (y : Int)) = true := by rw [bne_iff_ne]; omega
          clear hxy
          go_wp2_with fail
          go_quiet (fail)
          go_wp2_with fail
          go_ret
          exact ⟨ret_bool (decide_eq_false (Hn.out Hxy.out)).symm, by repeat (first | exact Below.refl _ _ | assumption | refine below_drewN ?_ _ | refine Below.drew ?_ | refine Below.alloc ?_ (Nat.le_refl _) _ | refine bal ?_ _ | refine bnext ?_ (by assumption))⟩
      · obtain rfl : k = l.length := by omega
        have He : Hid (l = m) := by
          have h := Ht.out
          rw [List.take_of_length_le (Nat.le_refl _), List.take_of_length_le (by rw [Hlen.out]; exact Nat.le_refl _)] at h
          exact h
        go_wp2_with fail
        go_ret
        exact ⟨ret_bool (decide_eq_true He.out).symm, hb⟩
  · have hx : ((l.length : Int) != (m.length : Int)) = true := by rw [bne_iff_ne]; omega
    have Hn : Hid (l ≠ m) := fun e => hlen (by rw [e])
    clear hlen
    go_enter Try.func20, Try.ntmps20
    go_wp2_with fail
    go_ret
    exact ⟨ret_bool (decide_eq_false Hn.out).symm, Below.refl _ _⟩

theorem items_any {P : Program} {d : Nat} {e : TypeId} {k : IntKind} (he : P.underlying e = some (.int k)) (xs ys : Array Value) (hx : ∀ i, i < xs.size → ∃ z, xs[i]? = some (.int k z)) (hy : ∀ i, i < xs.size → ∃ z, ys[i]? = some (.int k z)) :
    ∀ l : List Nat, (∀ i ∈ l, i < xs.size) → ∃ b, ∀ w, (Op.eqItems (d + 1) e 1 xs ys l).run P w = .ok b w
  | [], _ => ⟨true, fun w => by simp [Op.eqItems]⟩
  | j :: l, h => by
    obtain ⟨z, hz⟩ := hx j (h j (List.mem_cons_self ..))
    obtain ⟨u, hu⟩ := hy j (h j (List.mem_cons_self ..))
    obtain ⟨b, hb⟩ := items_any (P := P) (d := d) he xs ys hx hy l (fun i hi => h i (List.mem_cons_of_mem _ hi))
    refine ⟨(z == u) && b, fun w => ?_⟩
    have h1 := part_int (P := P) (w := w) he hz
    have h1' := part_int (P := P) (w := w) he hu
    have h2 := run_equalIn_int (P := P) w d e k k z u he
    simp only [Op.eqItems, Sem.run_bind, Nat.mul_one, h1, h1', h2, Result.andThen_ok]
    by_cases hzu : z = u
    · simp [hzu, hb]
    · simp [hzu]
theorem neq_sum (s : Nat → Int) : ∃ r : Bool, ∀ w, (binOp .neq 24 (.agg #[.int .u8 (s 0), .int .u8 (s 1), .int .u8 (s 2), .int .u8 (s 3), .int .u8 (s 4), .int .u8 (s 5), .int .u8 (s 6), .int .u8 (s 7), .int .u8 (s 8), .int .u8 (s 9), .int .u8 (s 10), .int .u8 (s 11), .int .u8 (s 12), .int .u8 (s 13), .int .u8 (s 14), .int .u8 (s 15)]) (.agg #[.int .u8 0, .int .u8 0, .int .u8 0, .int .u8 0, .int .u8 0, .int .u8 0, .int .u8 0, .int .u8 0, .int .u8 0, .int .u8 0, .int .u8 0, .int .u8 0, .int .u8 0, .int .u8 0, .int .u8 0, .int .u8 0])).run Try.prog w = .ok (.bool r) w := by
  have key : ∀ (f : Nat → Int), ∀ i, i < 16 → ∃ z, (#[.int .u8 (f 0), .int .u8 (f 1), .int .u8 (f 2), .int .u8 (f 3), .int .u8 (f 4), .int .u8 (f 5), .int .u8 (f 6), .int .u8 (f 7), .int .u8 (f 8), .int .u8 (f 9), .int .u8 (f 10), .int .u8 (f 11), .int .u8 (f 12), .int .u8 (f 13), .int .u8 (f 14), .int .u8 (f 15)])[i]? = some (Value.int .u8 z) := by
    intro f i hi
    match i, hi with
    | 0, _ => exact ⟨_, rfl⟩
    | 1, _ => exact ⟨_, rfl⟩
    | 2, _ => exact ⟨_, rfl⟩
    | 3, _ => exact ⟨_, rfl⟩
    | 4, _ => exact ⟨_, rfl⟩
    | 5, _ => exact ⟨_, rfl⟩
    | 6, _ => exact ⟨_, rfl⟩
    | 7, _ => exact ⟨_, rfl⟩
    | 8, _ => exact ⟨_, rfl⟩
    | 9, _ => exact ⟨_, rfl⟩
    | 10, _ => exact ⟨_, rfl⟩
    | 11, _ => exact ⟨_, rfl⟩
    | 12, _ => exact ⟨_, rfl⟩
    | 13, _ => exact ⟨_, rfl⟩
    | 14, _ => exact ⟨_, rfl⟩
    | 15, _ => exact ⟨_, rfl⟩
    | n + 16, h => exact absurd h (by simp)
  obtain ⟨b, hb⟩ := items_any (P := Try.prog) (d := 9998) (e := 5) Try.underlying5 #[.int .u8 (s 0), .int .u8 (s 1), .int .u8 (s 2), .int .u8 (s 3), .int .u8 (s 4), .int .u8 (s 5), .int .u8 (s 6), .int .u8 (s 7), .int .u8 (s 8), .int .u8 (s 9), .int .u8 (s 10), .int .u8 (s 11), .int .u8 (s 12), .int .u8 (s 13), .int .u8 (s 14), .int .u8 (s 15)] #[.int .u8 ((fun _ => 0) 0), .int .u8 ((fun _ => 0) 1), .int .u8 ((fun _ => 0) 2), .int .u8 ((fun _ => 0) 3), .int .u8 ((fun _ => 0) 4), .int .u8 ((fun _ => 0) 5), .int .u8 ((fun _ => 0) 6), .int .u8 ((fun _ => 0) 7), .int .u8 ((fun _ => 0) 8), .int .u8 ((fun _ => 0) 9), .int .u8 ((fun _ => 0) 10), .int .u8 ((fun _ => 0) 11), .int .u8 ((fun _ => 0) 12), .int .u8 ((fun _ => 0) 13), .int .u8 ((fun _ => 0) 14), .int .u8 ((fun _ => 0) 15)] (key s) (key fun _ => 0) (List.range 16) (fun i hi => List.mem_range.1 hi)
  refine ⟨!b, fun w => ?_⟩
  rw [run_neq_struct, run_equalIn_array w 9999 _ _ Try.underlying24 (i := Try.t5) (by kernel_rfl), show Try.prog.cellsOf 5 = 1 from by kernel_rfl, hb w]
  rfl

set_option maxHeartbeats 1000000 in
theorem writes_no (n s : Nat → Int) (hm : mayN n = false) (w : World) :
    Calls Try.prog 7 #[.agg (ofV (n 0) (n 1) (n 2) (n 3) (n 4) (n 5) (n 6) (n 7) s)] w fun e w' => e = .returned (.bool true) ∧ Below w.heap.size w w' := by
  have HW := Lib.hid (Write_no (n 0) (n 1) (n 2) (n 3) (n 4) (n 5) (n 6) (n 7) s hm)
  have HP := Lib.hid (Plain_any (n 0) (n 1) (n 2) (n 3) (n 4) (n 5) (n 6) (n 7) s)
  have HM := Lib.hid (May_any n s)
  have HC := Lib.hid (check_any (n 0) (n 1) (n 2) (n 3) (n 4) (n 5) (n 6) (n 7) s)
  rw [show mayB (n 0) (n 1) (n 2) (n 3) (n 4) (n 5) (n 6) (n 7) = false from hm] at HC
  rw [hm] at HM
  have HI : Hid ((w.alloc (.cells (ofV (n 0) (n 1) (n 2) (n 3) (n 4) (n 5) (n 6) (n 7) s) 34)).heap[w.heap.size]? = some (.cells (ofV (n 0) (n 1) (n 2) (n 3) (n 4) (n 5) (n 6) (n 7) s) 34 (0, 0))) := heap_alloc_last w _
  have H1 : Hid ((ofV (n 0) (n 1) (n 2) (n 3) (n 4) (n 5) (n 6) (n 7) s).all (·.oneCell') = true) := ofV_one _ _ _ _ _ _ _ _ _
  have Hsz : Hid ((ofV (n 0) (n 1) (n 2) (n 3) (n 4) (n 5) (n 6) (n 7) s).size = 24) := rfl
  clear hm
  generalize ofV (n 0) (n 1) (n 2) (n 3) (n 4) (n 5) (n 6) (n 7) s = V at *
  go_enter Try.func7, Try.ntmps7
  go_wp2_with (refine wpList_load_row_g (by rfl) 34 _ rfl w.heap.size rfl 34 V (0, 0) _ HI.out Try.underlying34 rfl (by rw [Hsz.out]; kernel_rfl) ?_)
  refine (HW.out _).mono ?_
  rintro e w1 ⟨rfl, hb1⟩
  have HI1 := Lib.hid (hrow_below HI.out hb1)
  have hb2 : Below w.heap.size w w1 := by repeat (first | exact Below.refl _ _ | assumption | refine below_drewN ?_ _ | refine Below.drew ?_ | refine Below.alloc ?_ (Nat.le_refl _) _ | refine bal ?_ _ | refine bnext ?_ (by assumption))
  clear hb1 HI HW
  go_wp2_with (refine wpList_load_row_g (by rfl) 34 _ rfl w.heap.size rfl 34 V (0, 0) _ HI1.out Try.underlying34 rfl (by rw [Hsz.out]; kernel_rfl) ?_)
  refine (HP.out _).mono ?_
  rintro e w3 ⟨rfl, hb3⟩
  have HI3 := Lib.hid (hrow_below HI1.out hb3)
  have hb4 := bnext hb2 hb3
  clear hb3 hb2 HI1 HP
  go_upto_region 3 with (first | (refine wpList_store_new rfl 46 _ _ rfl _ rfl rfl rfl (by rw [Hsz.out]; kernel_rfl) (by rw [Hsz.out]; rfl) H1.out ?_; intro w5 hw5))
  have HI5 : Hid (w5.heap[w.heap.size]? = some (.cells V 34 (0, 0))) := by show _ = _; rw [← hw5]; exact hrow_alloc HI3.out _
  have HR5 : Hid (w5.heap[w3.heap.size]? = some (.cells V 46 (0, 0))) := by show _ = _; rw [← hw5]; exact heap_alloc_last w3 _
  have hb5 : Below w.heap.size w w5 := by rw [← hw5]; exact bal hb4 _
  clear hb4 hw5 HI3
  go_wp2_with (refine wpList_load_row_g (by rfl) 46 _ rfl w3.heap.size rfl 46 V (0, 0) _ HR5.out Try.underlying46 rfl (by rw [Hsz.out]; kernel_rfl) ?_)
  refine (HM.out _).mono ?_
  rintro e w7 ⟨rfl, hb7⟩
  have HI7 := Lib.hid (hrow_below HI5.out hb7)
  have hb8 := bnext hb5 hb7
  clear hb5 hb7 HI5 HR5 HM
  go_wp2_with (refine wpList_load_row_g (by rfl) 34 _ rfl w.heap.size rfl 34 V (0, 0) _ HI7.out Try.underlying34 rfl (by rw [Hsz.out]; kernel_rfl) ?_)
  refine (HC.out _).mono ?_
  rintro e w9 ⟨rfl, hb9⟩
  have hb10 := bnext hb8 hb9
  simp only [chk]
  go_wp2_with fail
  refine (awake_any _).mono ?_
  rintro e w11 ⟨rfl, hb11⟩
  go_wp2_with fail
  go_ret
  exact ⟨rfl, bnext hb10 hb11⟩

set_option maxRecDepth 100000 in
set_option maxHeartbeats 2000000 in
theorem writes_ok (n s : Nat → Int) (hm : mayN n = true) (hs : ∀ i, i < 16 → 0 ≤ s i ∧ s i < 256) (w : World) :
    Calls Try.prog 7 #[.agg (ofV (n 0) (n 1) (n 2) (n 3) (n 4) (n 5) (n 6) (n 7) s)] w fun e w' => e = .returned (.bool true) ∧ Below w.heap.size w w' := by
  have HW := Lib.hid (Write_ok (n 0) (n 1) (n 2) (n 3) (n 4) (n 5) (n 6) (n 7) s hm hs)
  have HP := Lib.hid (Plain_any (n 0) (n 1) (n 2) (n 3) (n 4) (n 5) (n 6) (n 7) s)
  have HM := Lib.hid (May_any n s)
  have HC := Lib.hid (check_any (n 0) (n 1) (n 2) (n 3) (n 4) (n 5) (n 6) (n 7) s)
  rw [show mayB (n 0) (n 1) (n 2) (n 3) (n 4) (n 5) (n 6) (n 7) = true from hm] at HC
  have hn : ∀ k, k < 8 → (fM k : Int) ≤ n (fT k) ∧ n (fT k) < 9223372036854775807 := by
    obtain ⟨b0, b1, b2, b3, b4, b5, b6, b7⟩ := mayB_true hm
    intro k hk
    match k, hk with
    | 0, _ => show (0 : Int) ≤ n 3 ∧ _ < _; exact ⟨by omega, by show n 3 < _; omega⟩
    | 1, _ => show (0 : Int) ≤ n 4 ∧ _ < _; exact ⟨by omega, by show n 4 < _; omega⟩
    | 2, _ => show (0 : Int) ≤ n 5 ∧ _ < _; exact ⟨by omega, by show n 5 < _; omega⟩
    | 3, _ => show (0 : Int) ≤ n 6 ∧ _ < _; exact ⟨by omega, by show n 6 < _; omega⟩
    | 4, _ => show (0 : Int) ≤ n 0 ∧ _ < _; exact ⟨by omega, by show n 0 < _; omega⟩
    | 5, _ => show (1 : Int) ≤ n 1 ∧ _ < _; exact ⟨by omega, by show n 1 < _; omega⟩
    | 6, _ => show (1 : Int) ≤ n 2 ∧ _ < _; exact ⟨by omega, by show n 2 < _; omega⟩
    | 7, _ => show (0 : Int) ≤ n 7 ∧ _ < _; exact ⟨by omega, by show n 7 < _; omega⟩
    | k + 8, h => omega
  have HBy := Lib.hid (refBytes_any n s hn hs)
  have HL := Lib.hid (wr_eq n hm)
  rw [hm] at HM
  obtain ⟨r, hr⟩ := neq_sum s
  have Hr := Lib.hid hr
  have HKn := Lib.hid (Known_any r (n 0) (n 1) (n 2) (n 3) (n 4) (n 5) (n 6) (n 7) s hr)
  have HI : Hid ((w.alloc (.cells (ofV (n 0) (n 1) (n 2) (n 3) (n 4) (n 5) (n 6) (n 7) s) 34)).heap[w.heap.size]? = some (.cells (ofV (n 0) (n 1) (n 2) (n 3) (n 4) (n 5) (n 6) (n 7) s) 34 (0, 0))) := heap_alloc_last w _
  have H1 : Hid ((ofV (n 0) (n 1) (n 2) (n 3) (n 4) (n 5) (n 6) (n 7) s).all (·.oneCell') = true) := ofV_one _ _ _ _ _ _ _ _ _
  have Hsz : Hid ((ofV (n 0) (n 1) (n 2) (n 3) (n 4) (n 5) (n 6) (n 7) s).size = 24) := rfl
  have HIof : Hid (∀ W, W.heap[w.heap.size]? = some (.cells (ofV (n 0) (n 1) (n 2) (n 3) (n 4) (n 5) (n 6) (n 7) s) 34 (0, 0)) → InfAt W w.heap.size (n 0) (n 1) (n 2) (n 3) (n 4) (n 5) (n 6) (n 7) s) := fun W h => h
  clear hm hs hr hn
  generalize ofV (n 0) (n 1) (n 2) (n 3) (n 4) (n 5) (n 6) (n 7) s = V at *
  go_enter Try.func7, Try.ntmps7
  go_wp2_with (refine wpList_load_row_g (by rfl) 34 _ rfl w.heap.size rfl 34 V (0, 0) _ HI.out Try.underlying34 rfl (by rw [Hsz.out]; kernel_rfl) ?_)
  refine (HW.out _).mono ?_
  rintro e w1 ⟨v, R, rfl, hR, Hown, hb1⟩
  have hL := HL.out R hR
  have Hwr : Hid (wrB (n 3) (n 4) (n 5) (n 6) R s = packN (allF n 8) ++ s16L s) := by show _ = _; rw [hL]; rfl
  obtain ⟨A, c, rfl, hc, hrd, hnil⟩ := own_nilcap Hown.out
  rw [Hwr.out] at hrd
  have Hrd := Lib.hid hrd
  have h34 : (packN (allF n 8) ++ s16L s).length = 34 := by
    have := allF_length n 8 (by omega)
    simp [packN, s16L_length, this, stK]
  have H34 := Lib.hid h34
  have HI1 := Lib.hid (hrow_below HI.out hb1)
  have hb2 : Below w.heap.size w w1 := by repeat (first | exact Below.refl _ _ | assumption | refine below_drewN ?_ _ | refine Below.drew ?_ | refine Below.alloc ?_ (Nat.le_refl _) _ | refine bal ?_ _ | refine bnext ?_ (by assumption))
  clear hb1 HI HW hL hrd Hown hnil h34 HL hR Hwr hc
  generalize packN (allF n 8) ++ s16L s = L34 at *
  go_wp2_with (refine wpList_load_row_g (by rfl) 34 _ rfl w.heap.size rfl 34 V (0, 0) _ HI1.out Try.underlying34 rfl (by rw [Hsz.out]; kernel_rfl) ?_)
  refine (HP.out _).mono ?_
  rintro e w3 ⟨rfl, hb3⟩
  have HI3 := Lib.hid (hrow_below HI1.out hb3)
  have Hrd3 := Lib.hid (Hrd.out.below hb3)
  have hb4 := bnext hb2 hb3
  clear hb3 hb2 HI1 HP Hrd
  go_upto_region 3 with (first | (refine wpList_store_new rfl 46 _ _ rfl _ rfl rfl rfl (by rw [Hsz.out]; kernel_rfl) (by rw [Hsz.out]; rfl) H1.out ?_; intro w5 hw5))
  have HI5 : Hid (w5.heap[w.heap.size]? = some (.cells V 34 (0, 0))) := by show _ = _; rw [← hw5]; exact hrow_alloc HI3.out _
  have HR5 : Hid (w5.heap[w3.heap.size]? = some (.cells V 46 (0, 0))) := by show _ = _; rw [← hw5]; exact heap_alloc_last w3 _
  have Hrd5 : Hid (Rd w5 A (nv8 L34)) := by show Rd _ _ _; rw [← hw5]; exact Hrd3.out.alloc _
  have hb5 : Below w.heap.size w w5 := by rw [← hw5]; exact bal hb4 _
  clear hb4 hw5 HI3 Hrd3
  generalize w3.heap.size = g at *
  go_wp2_with (refine wpList_load_row_g (by rfl) 46 _ rfl g rfl 46 V (0, 0) _ HR5.out Try.underlying46 rfl (by rw [Hsz.out]; kernel_rfl) ?_)
  refine (HM.out _).mono ?_
  rintro e w7 ⟨rfl, hb7⟩
  have QI : Hid (∀ W, Below w7.heap.size w7 W → W.heap[w.heap.size]? = some (.cells V 34 (0, 0))) := fun W hW => hrow_below (hrow_below HI5.out hb7) hW
  have QIs : Hid (∀ W, Below w7.heap.size w7 W → InfAt W w.heap.size (n 0) (n 1) (n 2) (n 3) (n 4) (n 5) (n 6) (n 7) s) := fun W hW => HIof.out W (QI.out W hW)
  have QR : Hid (∀ W, Below w7.heap.size w7 W → W.heap[g]? = some (.cells V 46 (0, 0))) := fun W hW => hrow_below (hrow_below HR5.out hb7) hW
  have HEq : Hid (∀ A2 c2 W, Below w7.heap.size w7 W → Rd W A2 (nv8 L34) → Calls Try.prog 20 #[.slice A 34 c, .slice A2 L34.length c2] W fun e w' => e = .returned (.bool true) ∧ Below W.heap.size W w') := by
    intro A2 c2 W hW hr2
    have h := bytes_any L34 L34 A A2 c c2 W ((Hrd5.out.below hb7).below hW) hr2 (by rw [H34.out]; omega)
    rw [decide_eq_true rfl] at h
    conv at h => arg 3; rw [show L34.length = 34 from H34.out]
    conv => arg 3; rw [show L34.length = 34 from H34.out]
    exact h
  have hb8 := bnext hb5 hb7
  clear hb5 hb7 HI5 HR5 HM Hrd5 HIof
  simp only [chk] at HC
  go_wp2_with fail
  refine wp_region_specs [
    Spec.val (.agg V),
    Spec.val ((.int .i64 0)),
    Spec.val (.bool true),
    Spec.val (.bool true),
    Spec.val ((.int .i64 0)),
    Spec.val (.bool true),
    Spec.val (.bool true),
    Spec.val (.bool true),
    Spec.val ((.slice A 34 c)),
    Spec.val (.agg V),
    SlN.spec L34,
    Spec.val (.bool true),
    Spec.val (.bool true),
    Spec.val (.bool true),
    Spec.val (.agg V),
    Spec.val (.bool r),
    Spec.val (.pointer (some ⟨w.heap.size, 8, none⟩)),
    Spec.val (.agg #[.int .u8 (s 0), .int .u8 (s 1), .int .u8 (s 2), .int .u8 (s 3), .int .u8 (s 4), .int .u8 (s 5), .int .u8 (s 6), .int .u8 (s 7), .int .u8 (s 8), .int .u8 (s 9), .int .u8 (s 10), .int .u8 (s 11), .int .u8 (s 12), .int .u8 (s 13), .int .u8 (s 14), .int .u8 (s 15)]),
    Spec.val (.agg #[.int .u8 0, .int .u8 0, .int .u8 0, .int .u8 0, .int .u8 0, .int .u8 0, .int .u8 0, .int .u8 0, .int .u8 0, .int .u8 0, .int .u8 0, .int .u8 0, .int .u8 0, .int .u8 0, .int .u8 0, .int .u8 0]),
    Spec.val (.bool r),
    Spec.val (.bool true),
    Spec.val (.bool true),
    Spec.val (.bool true),
    Spec.val (.bool true),
    Spec.val (.bool true),
    Spec.val (.bool true)] w7 (by kernel_rfl) (by repeat (first | exact Below.refl _ _ | assumption | refine below_drewN ?_ _ | refine Below.drew ?_ | refine Below.alloc ?_ (Nat.le_refl _) _ | refine bal ?_ _ | refine bnext ?_ (by assumption))) (n := 56) rfl (by decide +kernel) ⟨?_, ?_, ?_, ?_, ?_, ?_, ?_, ?_, ?_, ?_, ?_, ?_, ?_, ?_, ?_, ?_, ?_, ?_, ?_, ?_, ?_, ?_, ?_, ?_, ?_, ?_, trivial⟩ ?_
  · intro ac wd hJ hfr hdep
    have s1 : ac.tmps.getD 1 undef = .pointer (some ⟨w.heap.size, 0, none⟩) := (hfr 1 (by decide)).trans rfl
    have s1' := slot' s1
    clear hfr hdep
    refine if_wanted rfl (fun Q => op_any (fun K hK => ?_))
    exact wp_load_row 34 _ rfl w.heap.size s1 34 _ (0, 0) _ (QI.out wd hJ) Try.underlying34 rfl (by rw [Hsz.out]; kernel_rfl) (hK _ _ rfl hJ (Below.refl _ _))
  · intro ac wd hJ hfr hdep
    have s31 : ac.tmps.getD 31 undef = .agg V := hdep 0 _ 31 (by decide) rfl rfl
    have s31' := slot' s31
    clear hfr hdep
    refine if_wanted rfl (fun Q => op_any (fun K hK => ?_))
    go_simp
    refine (HC.out _).mono ?_
    rintro e w1 ⟨rfl, hb1⟩
    exact hK _ _ rfl (bnext hJ hb1) hb1
  · intro ac wd hJ hfr hdep
    have s32 : ac.tmps.getD 32 undef = (.int .i64 0) := hdep 1 _ 32 (by decide) rfl rfl
    have s32' := slot' s32
    clear hfr hdep
    refine if_wanted rfl (fun Q => op_any (fun K hK => ?_))
    go_simp
    exact hK _ _ rfl hJ (Below.refl _ _)
  · intro ac wd hJ hfr hdep
    have s33 : ac.tmps.getD 33 undef = .bool true := hdep 2 _ 33 (by decide) rfl rfl
    have s33' := slot' s33
    clear hfr hdep
    refine if_wanted rfl (fun Q => op_any (fun K hK => ?_))
    go_simp
    exact hK _ _ rfl hJ (Below.refl _ _)
  · intro ac wd hJ hfr hdep
    have sg : ac.tmps.getD 34 undef = .bool true := hdep 3 _ 34 (by decide) rfl rfl
    have s4 : ac.tmps.getD 4 undef = (.int .i64 0) := (hfr 4 (by decide)).trans rfl
    have s4' := slot' s4
    clear hfr hdep
    refine if_wanted (wanted_yes rfl rfl rfl sg) (fun Q => op_any (fun K hK => ?_))
    go_simp
    exact hK _ _ rfl hJ (Below.refl _ _)
  · intro ac wd hJ hfr hdep
    have sg : ac.tmps.getD 34 undef = .bool true := hdep 3 _ 34 (by decide) rfl rfl
    have s35 : ac.tmps.getD 35 undef = (.int .i64 0) := hdep 4 _ 35 (by decide) rfl rfl
    have s35' := slot' s35
    clear hfr hdep
    refine if_wanted (wanted_yes rfl rfl rfl sg) (fun Q => op_any (fun K hK => ?_))
    go_simp
    exact hK _ _ rfl hJ (Below.refl _ _)
  · intro ac wd hJ hfr hdep
    have s34 : ac.tmps.getD 34 undef = .bool true := hdep 3 _ 34 (by decide) rfl rfl
    have s36 : ac.tmps.getD 36 undef = .bool true := hdep 5 _ 36 (by decide) rfl rfl
    have s34' := slot' s34
    have s36' := slot' s36
    clear hfr hdep
    refine if_wanted rfl (fun Q => op_any (fun K hK => ?_))
    go_simp
    exact hK _ _ rfl hJ (Below.refl _ _)
  · intro ac wd hJ hfr hdep
    have s37 : ac.tmps.getD 37 undef = .bool true := hdep 6 _ 37 (by decide) rfl rfl
    have s37' := slot' s37
    clear hfr hdep
    refine if_wanted rfl (fun Q => op_any (fun K hK => ?_))
    go_simp
    exact hK _ _ rfl hJ (Below.refl _ _)
  · intro ac wd hJ hfr hdep
    have sg : ac.tmps.getD 38 undef = .bool true := hdep 7 _ 38 (by decide) rfl rfl
    have s3 : ac.tmps.getD 3 undef = (.slice A 34 c) := (hfr 3 (by decide)).trans rfl
    have s3' := slot' s3
    clear hfr hdep
    refine if_wanted (wanted_yes rfl rfl rfl sg) (fun Q => op_any (fun K hK => ?_))
    go_simp
    exact hK _ _ rfl hJ (Below.refl _ _)
  · intro ac wd hJ hfr hdep
    have sg : ac.tmps.getD 38 undef = .bool true := hdep 7 _ 38 (by decide) rfl rfl
    have s5 : ac.tmps.getD 5 undef = .pointer (some ⟨g, 0, none⟩) := (hfr 5 (by decide)).trans rfl
    have s5' := slot' s5
    clear hfr hdep
    refine if_wanted (wanted_yes rfl rfl rfl sg) (fun Q => op_any (fun K hK => ?_))
    exact wp_load_row 46 _ rfl g s5 46 _ (0, 0) _ (QR.out wd hJ) Try.underlying46 rfl (by rw [Hsz.out]; kernel_rfl) (hK _ _ rfl hJ (Below.refl _ _))
  · intro ac wd hJ hfr hdep
    have sg : ac.tmps.getD 38 undef = .bool true := hdep 7 _ 38 (by decide) rfl rfl
    have s40 : ac.tmps.getD 40 undef = .agg V := hdep 9 _ 40 (by decide) rfl rfl
    have s40' := slot' s40
    clear hfr hdep
    refine if_wanted (wanted_yes rfl rfl rfl sg) (fun Q => op_any (fun K hK => ?_))
    go_simp
    refine (HBy.out _).mono ?_
    rintro e wz ⟨v, rfl, hown, hbz⟩
    obtain ⟨A, c, rfl, hc, hr, hn⟩ := own_nilcap hown.out
    exact hK _ _ ⟨A, c, by rw [H34.out], by rw [H34.out]; exact hc, hr, hn⟩ (bnext hJ hbz) hbz
  · intro ac wd hJ hfr hdep
    have sg : ac.tmps.getD 38 undef = .bool true := hdep 7 _ 38 (by decide) rfl rfl
    have s39 : ac.tmps.getD 39 undef = (.slice A 34 c) := hdep 8 _ 39 (by decide) rfl rfl
    obtain ⟨A41, c41, s41, hc41, hr41, hn41⟩ := hdep 10 _ 41 (by decide) rfl rfl
    have s39' := slot' s39
    have s41' := slot' s41
    clear hfr hdep
    refine if_wanted (wanted_yes rfl rfl rfl sg) (fun Q => op_any (fun K hK => ?_))
    go_simp
    refine (HEq.out A41 c41 wd hJ hr41).mono ?_
    rintro e w1 ⟨rfl, hb1⟩
    exact hK _ _ rfl (bnext hJ hb1) hb1
  · intro ac wd hJ hfr hdep
    have s38 : ac.tmps.getD 38 undef = .bool true := hdep 7 _ 38 (by decide) rfl rfl
    have s42 : ac.tmps.getD 42 undef = .bool true := hdep 11 _ 42 (by decide) rfl rfl
    have s38' := slot' s38
    have s42' := slot' s42
    clear hfr hdep
    refine if_wanted rfl (fun Q => op_any (fun K hK => ?_))
    go_simp
    exact hK _ _ rfl hJ (Below.refl _ _)
  · intro ac wd hJ hfr hdep
    have s43 : ac.tmps.getD 43 undef = .bool true := hdep 12 _ 43 (by decide) rfl rfl
    have s43' := slot' s43
    clear hfr hdep
    refine if_wanted rfl (fun Q => op_any (fun K hK => ?_))
    go_simp
    exact hK _ _ rfl hJ (Below.refl _ _)
  · intro ac wd hJ hfr hdep
    have sg : ac.tmps.getD 44 undef = .bool true := hdep 13 _ 44 (by decide) rfl rfl
    have s1 : ac.tmps.getD 1 undef = .pointer (some ⟨w.heap.size, 0, none⟩) := (hfr 1 (by decide)).trans rfl
    have s1' := slot' s1
    clear hfr hdep
    refine if_wanted (wanted_yes rfl rfl rfl sg) (fun Q => op_any (fun K hK => ?_))
    exact wp_load_row 34 _ rfl w.heap.size s1 34 _ (0, 0) _ (QI.out wd hJ) Try.underlying34 rfl (by rw [Hsz.out]; kernel_rfl) (hK _ _ rfl hJ (Below.refl _ _))
  · intro ac wd hJ hfr hdep
    have sg : ac.tmps.getD 44 undef = .bool true := hdep 13 _ 44 (by decide) rfl rfl
    have s45 : ac.tmps.getD 45 undef = .agg V := hdep 14 _ 45 (by decide) rfl rfl
    have s45' := slot' s45
    clear hfr hdep
    refine if_wanted (wanted_yes rfl rfl rfl sg) (fun Q => op_any (fun K hK => ?_))
    go_simp
    refine (HKn.out _).mono ?_
    rintro e w1 ⟨rfl, hb1⟩
    exact hK _ _ rfl (bnext hJ hb1) hb1
  · intro ac wd hJ hfr hdep
    have sg : ac.tmps.getD 44 undef = .bool true := hdep 13 _ 44 (by decide) rfl rfl
    have s1 : ac.tmps.getD 1 undef = .pointer (some ⟨w.heap.size, 0, none⟩) := (hfr 1 (by decide)).trans rfl
    have s1' := slot' s1
    clear hfr hdep
    refine if_wanted (wanted_yes rfl rfl rfl sg) (fun Q => op_any (fun K hK => ?_))
    go_simp
    exact hK _ _ rfl hJ (Below.refl _ _)
  · intro ac wd hJ hfr hdep
    have sg : ac.tmps.getD 44 undef = .bool true := hdep 13 _ 44 (by decide) rfl rfl
    have s47 : ac.tmps.getD 47 undef = .pointer (some ⟨w.heap.size, 8, none⟩) := hdep 16 _ 47 (by decide) rfl rfl
    have s47' := slot' s47
    clear hfr hdep
    refine if_wanted (wanted_yes rfl rfl rfl sg) (fun Q => op_any (fun K hK => ?_))
    exact wp_load_mid 24 _ rfl w.heap.size 8 s47 [.int .u8 (s 0), .int .u8 (s 1), .int .u8 (s 2), .int .u8 (s 3), .int .u8 (s 4), .int .u8 (s 5), .int .u8 (s 6), .int .u8 (s 7), .int .u8 (s 8), .int .u8 (s 9), .int .u8 (s 10), .int .u8 (s 11), .int .u8 (s 12), .int .u8 (s 13), .int .u8 (s 14), .int .u8 (s 15)] _ (InfAt.sum (QIs.out wd hJ)) Try.underlying24 rfl (by kernel_rfl) (hK _ _ rfl hJ (Below.refl _ _))
  · intro ac wd hJ hfr hdep
    have sg : ac.tmps.getD 44 undef = .bool true := hdep 13 _ 44 (by decide) rfl rfl
    clear hfr hdep
    refine if_wanted (wanted_yes rfl rfl rfl sg) (fun Q => op_any (fun K hK => ?_))
    go_simp
    exact hK _ _ rfl hJ (Below.refl _ _)
  · intro ac wd hJ hfr hdep
    have sg : ac.tmps.getD 44 undef = .bool true := hdep 13 _ 44 (by decide) rfl rfl
    have s48 : ac.tmps.getD 48 undef = .agg #[.int .u8 (s 0), .int .u8 (s 1), .int .u8 (s 2), .int .u8 (s 3), .int .u8 (s 4), .int .u8 (s 5), .int .u8 (s 6), .int .u8 (s 7), .int .u8 (s 8), .int .u8 (s 9), .int .u8 (s 10), .int .u8 (s 11), .int .u8 (s 12), .int .u8 (s 13), .int .u8 (s 14), .int .u8 (s 15)] := hdep 17 _ 48 (by decide) rfl rfl
    have s49 : ac.tmps.getD 49 undef = .agg #[.int .u8 0, .int .u8 0, .int .u8 0, .int .u8 0, .int .u8 0, .int .u8 0, .int .u8 0, .int .u8 0, .int .u8 0, .int .u8 0, .int .u8 0, .int .u8 0, .int .u8 0, .int .u8 0, .int .u8 0, .int .u8 0] := hdep 18 _ 49 (by decide) rfl rfl
    have s48' := slot' s48
    have s49' := slot' s49
    clear hfr hdep
    refine if_wanted (wanted_yes rfl rfl rfl sg) (fun Q => op_any (fun K hK => ?_))
    exact wp_bin .neq 24 _ _ _ rfl s48 s49 (by kernel_rfl) (Hr.out wd) (hK _ _ rfl hJ (Below.refl _ _))
  · intro ac wd hJ hfr hdep
    have sg : ac.tmps.getD 44 undef = .bool true := hdep 13 _ 44 (by decide) rfl rfl
    have s46 : ac.tmps.getD 46 undef = .bool r := hdep 15 _ 46 (by decide) rfl rfl
    have s50 : ac.tmps.getD 50 undef = .bool r := hdep 19 _ 50 (by decide) rfl rfl
    have s46' := slot' s46
    have s50' := slot' s50
    clear hfr hdep
    refine if_wanted (wanted_yes rfl rfl rfl sg) (fun Q => op_any (fun K hK => ?_))
    go_simp
    first | exact hK _ _ rfl hJ (Below.refl _ _) | (cases r <;> exact hK _ _ rfl hJ (Below.refl _ _))
  · intro ac wd hJ hfr hdep
    have s44 : ac.tmps.getD 44 undef = .bool true := hdep 13 _ 44 (by decide) rfl rfl
    have s51 : ac.tmps.getD 51 undef = .bool true := hdep 20 _ 51 (by decide) rfl rfl
    have s44' := slot' s44
    have s51' := slot' s51
    clear hfr hdep
    refine if_wanted rfl (fun Q => op_any (fun K hK => ?_))
    go_simp
    exact hK _ _ rfl hJ (Below.refl _ _)
  · intro ac wd hJ hfr hdep
    have s52 : ac.tmps.getD 52 undef = .bool true := hdep 21 _ 52 (by decide) rfl rfl
    have s52' := slot' s52
    clear hfr hdep
    refine if_wanted rfl (fun Q => op_any (fun K hK => ?_))
    go_simp
    exact hK _ _ rfl hJ (Below.refl _ _)
  · intro ac wd hJ hfr hdep
    have sg : ac.tmps.getD 53 undef = .bool true := hdep 22 _ 53 (by decide) rfl rfl
    clear hfr hdep
    refine if_wanted (wanted_yes rfl rfl rfl sg) (fun Q => op_any (fun K hK => ?_))
    go_simp
    refine (awake_any _).mono ?_
    rintro e w1 ⟨rfl, hb1⟩
    exact hK _ _ rfl (bnext hJ hb1) hb1
  · intro ac wd hJ hfr hdep
    have s53 : ac.tmps.getD 53 undef = .bool true := hdep 22 _ 53 (by decide) rfl rfl
    have s54 : ac.tmps.getD 54 undef = .bool true := hdep 23 _ 54 (by decide) rfl rfl
    have s53' := slot' s53
    have s54' := slot' s54
    clear hfr hdep
    refine if_wanted rfl (fun Q => op_any (fun K hK => ?_))
    go_simp
    exact hK _ _ rfl hJ (Below.refl _ _)
  · intro ac wd hJ hfr hdep
    have s55 : ac.tmps.getD 55 undef = .bool true := hdep 24 _ 55 (by decide) rfl rfl
    have s55' := slot' s55
    clear hfr hdep
    refine if_wanted rfl (fun Q => op_any (fun K hK => ?_))
    go_simp
    exact hK _ _ rfl hJ (Below.refl _ _)
  intro f w' hJ hR
  have e0 : f 0 = .agg V := hR 0 (by decide)
  have e1 : f 1 = (.int .i64 0) := hR 1 (by decide)
  have e2 : f 2 = .bool true := hR 2 (by decide)
  have e3 : f 3 = .bool true := hR 3 (by decide)
  have e4 : f 4 = (.int .i64 0) := hR 4 (by decide)
  have e5 : f 5 = .bool true := hR 5 (by decide)
  have e6 : f 6 = .bool true := hR 6 (by decide)
  have e7 : f 7 = .bool true := hR 7 (by decide)
  have e8 : f 8 = (.slice A 34 c) := hR 8 (by decide)
  have e9 : f 9 = .agg V := hR 9 (by decide)
  obtain ⟨A10', c10', e10, hc10', hr10', hn10'⟩ := hR 10 (by decide)
  have e11 : f 11 = .bool true := hR 11 (by decide)
  have e12 : f 12 = .bool true := hR 12 (by decide)
  have e13 : f 13 = .bool true := hR 13 (by decide)
  have e14 : f 14 = .agg V := hR 14 (by decide)
  have e15 : f 15 = .bool r := hR 15 (by decide)
  have e16 : f 16 = .pointer (some ⟨w.heap.size, 8, none⟩) := hR 16 (by decide)
  have e17 : f 17 = .agg #[.int .u8 (s 0), .int .u8 (s 1), .int .u8 (s 2), .int .u8 (s 3), .int .u8 (s 4), .int .u8 (s 5), .int .u8 (s 6), .int .u8 (s 7), .int .u8 (s 8), .int .u8 (s 9), .int .u8 (s 10), .int .u8 (s 11), .int .u8 (s 12), .int .u8 (s 13), .int .u8 (s 14), .int .u8 (s 15)] := hR 17 (by decide)
  have e18 : f 18 = .agg #[.int .u8 0, .int .u8 0, .int .u8 0, .int .u8 0, .int .u8 0, .int .u8 0, .int .u8 0, .int .u8 0, .int .u8 0, .int .u8 0, .int .u8 0, .int .u8 0, .int .u8 0, .int .u8 0, .int .u8 0, .int .u8 0] := hR 18 (by decide)
  have e19 : f 19 = .bool r := hR 19 (by decide)
  have e20 : f 20 = .bool true := hR 20 (by decide)
  have e21 : f 21 = .bool true := hR 21 (by decide)
  have e22 : f 22 = .bool true := hR 22 (by decide)
  have e23 : f 23 = .bool true := hR 23 (by decide)
  have e24 : f 24 = .bool true := hR 24 (by decide)
  have e25 : f 25 = .bool true := hR 25 (by decide)
  clear hR
  simp only [finA, Act.put, List.setIfInBounds_toArray, List.set_cons_succ, List.set_cons_zero, Nat.reduceAdd, e0, e1, e2, e3, e4, e5, e6, e7, e8, e9, e10, e11, e12, e13, e14, e15, e16, e17, e18, e19, e20, e21, e22, e23, e24, e25]
  clear e0 e1 e2 e3 e4 e5 e6 e7 e8 e9 e10 e11 e12 e13 e14 e15 e16 e17 e18 e19 e20 e21 e22 e23 e24 e25
  have hend : Below w.heap.size w w' := bnext hb8 hJ
  go_wp2_with fail
  go_ret
  exact ⟨rfl, hend⟩
end Go.Proofs.Ytikgpohoggpldaa
