import Derived.Test.YtikgpohoggpldaaInf
import Derived.Deep.WholeRow
import Derived.StillTailTactics
import Derived.Deep.MidRow
namespace Go.Proofs.Ytikgpohoggpldaa
open Go.RowKit

theorem wpList_store_new {P : Program} {w : World} {ops : Array Oper} {rest : List Oper} {op : Oper} {a : Act} {Q : Exit → Act → World → Prop} {c c' : Array Value} {t : TypeId} (hgd : op.guard = none) (ty : TypeId) (x y : Operand) (ho : op.op = .store ty x y)
    (H : Nat) (hx : a.eval x = .pointer (some ⟨H, 0, none⟩)) (hH : w.heap.size = H) (hy : a.eval y = .agg c') (hi : (P.info? ty).map (·.size) = some c'.size) (hs : c.size = c'.size) (h1 : c'.all (·.oneCell') = true)
    (h : ∀ w', w.alloc (.cells c' t) = w' → wpList P ops Q rest (a.put op.dst undef) w') : wpList P ops Q (op :: rest) a (w.alloc (.cells c t)) :=
  wpList_plain hgd fun _ hK => by
    subst hH
    unfold Oper.wp execOp
    have e : (storeVar ty ⟨w.heap.size, 0, none⟩ (.agg c')).run P (w.alloc (.cells c t)) = .ok () (w.alloc (.cells c' t)) := by
      rw [run_storeVar_row (P := P) _ _ t ty c c' (heap_alloc_last w _) hi hs h1, World.setRow_alloc_new]
    simp only [ho, hx, hy, Instr.storeAt, Instr.sureAddr, Sem.run_bind, Sem.run_pure, Result.andThen_ok, e]
    exact hK _ _ (h _ rfl)

theorem hrow_set {w : World} {g : Nat} {cs cs' : Array Value} {t : TypeId} {i : Nat} {v : Value} (h : w.heap[g]? = some (.cells cs t (0, 0))) (he : cs.setIfInBounds i v = cs') : (w.setCell ⟨g, i, none⟩ v).heap[g]? = some (.cells cs' t (0, 0)) := he ▸ heap_setCell_same w g i cs t v h
theorem hrow_alloc {w : World} {g : Nat} {cs : Array Value} {t : TypeId} {f : Nat × Nat} (h : w.heap[g]? = some (.cells cs t f)) (o : Obj) : (w.alloc o).heap[g]? = some (.cells cs t f) := by
  have hl : g < w.heap.size := by
    rcases Nat.lt_or_ge g w.heap.size with h1 | h1
    · exact h1
    · rw [Array.getElem?_eq_none h1] at h; cases h
  exact (_root_.Go.heap_alloc_old w o hl).trans h
theorem heap3_mid (w : World) (a b c : Obj) : (((w.alloc a).alloc b).alloc c).heap[w.heap.size + 1]? = some b := by
  exact (_root_.Go.heap_alloc_old ((w.alloc a).alloc b) c (by simp)).trans (heap_alloc2_new w a b)

theorem Below.setRow {B g : Nat} {w w' : World} (h : Below B w w') (hg : B ≤ g) (cs : Array Value) : Below B w (w'.setRow g cs) :=
  h.trans ⟨rfl, rfl, rfl, by simp, fun k hk => setRow_other _ _ _ _ (by omega)⟩

theorem wpList_store_row {P : Program} {w : World} {ops : Array Oper} {rest : List Oper} {op : Oper} {a : Act} {Q : Exit → Act → World → Prop} {c c' : Array Value} {t : TypeId} (hgd : op.guard = none) (ty : TypeId) (x y : Operand) (ho : op.op = .store ty x y)
    (g : Nat) (hx : a.eval x = .pointer (some ⟨g, 0, none⟩)) (hy : a.eval y = .agg c') (hg : w.heap[g]? = some (.cells c t (0, 0))) (hi : (P.info? ty).map (·.size) = some c'.size) (hs : c.size = c'.size) (h1 : c'.all (·.oneCell') = true)
    (h : wpList P ops Q rest (a.put op.dst undef) (w.setRow g c')) : wpList P ops Q (op :: rest) a w :=
  wpList_plain hgd fun _ hK => by
    unfold Oper.wp execOp
    simp only [ho, hx, hy, Instr.storeAt, Instr.sureAddr, Sem.run_bind, Sem.run_pure, Result.andThen_ok, run_storeVar_row (P := P) _ _ t ty c c' hg hi hs h1]
    exact hK _ _ h

def ofV (p0 p1 p2 a b c d e : Int) (s : Nat → Int) : Array Value := #[.int .i64 p0, .int .i64 p1, .int .i64 p2, .int .i64 a, .int .i64 b, .int .i64 c, .int .i64 d, .int .i64 e, .int .u8 (s 0), .int .u8 (s 1), .int .u8 (s 2), .int .u8 (s 3), .int .u8 (s 4), .int .u8 (s 5), .int .u8 (s 6), .int .u8 (s 7), .int .u8 (s 8), .int .u8 (s 9), .int .u8 (s 10), .int .u8 (s 11), .int .u8 (s 12), .int .u8 (s 13), .int .u8 (s 14), .int .u8 (s 15)]
theorem ofV_one (p0 p1 p2 a b c d e : Int) (s : Nat → Int) : (ofV p0 p1 p2 a b c d e s).all (·.oneCell') = true := by simp [ofV, Value.oneCell']
def InfAt (w : World) (g : Nat) (p0 p1 p2 a b c d e : Int) (s : Nat → Int) : Prop := w.heap[g]? = some (.cells (ofV p0 p1 p2 a b c d e s) 34 (0, 0))
section
variable {w : World} {g : Nat} {p0 p1 p2 a b c d e : Int} {s : Nat → Int}
theorem InfAt.cell (h : InfAt w g p0 p1 p2 a b c d e s) (i : Nat) (v : Value) (hv : (ofV p0 p1 p2 a b c d e s)[i]? = some v) : w.cell? ⟨g, i, none⟩ = some v := by
  rw [cell_of_row w g i _ _ _ h]; exact hv
theorem InfAt.fr (h : InfAt w g p0 p1 p2 a b c d e s) (i : Nat) : w.frozen? ⟨g, i, none⟩ = false := frozen_of_row w g i _ _ h
theorem InfAt.alloc (h : InfAt w g p0 p1 p2 a b c d e s) (o : Obj) : InfAt (w.alloc o) g p0 p1 p2 a b c d e s := hrow_alloc h o
theorem InfAt.other (h : InfAt w g p0 p1 p2 a b c d e s) (x : Addr) (v : Value) (hx : g ≠ x.block) : InfAt (w.setCell x v) g p0 p1 p2 a b c d e s := (heap_setCell_other w x g v hx).trans h
theorem InfAt.set3 (h : InfAt w g p0 p1 p2 a b c d e s) (z : Int) : InfAt (w.setCell ⟨g, 3, none⟩ (.int .i64 z)) g p0 p1 p2 z b c d e s := hrow_set h rfl
theorem InfAt.set4 (h : InfAt w g p0 p1 p2 a b c d e s) (z : Int) : InfAt (w.setCell ⟨g, 4, none⟩ (.int .i64 z)) g p0 p1 p2 a z c d e s := hrow_set h rfl
theorem InfAt.set5 (h : InfAt w g p0 p1 p2 a b c d e s) (z : Int) : InfAt (w.setCell ⟨g, 5, none⟩ (.int .i64 z)) g p0 p1 p2 a b z d e s := hrow_set h rfl
theorem InfAt.set6 (h : InfAt w g p0 p1 p2 a b c d e s) (z : Int) : InfAt (w.setCell ⟨g, 6, none⟩ (.int .i64 z)) g p0 p1 p2 a b c z e s := hrow_set h rfl
theorem InfAt.set7 (h : InfAt w g p0 p1 p2 a b c d e s) (z : Int) : InfAt (w.setCell ⟨g, 7, none⟩ (.int .i64 z)) g p0 p1 p2 a b c d z s := hrow_set h rfl
theorem InfAt.new (hg : w.heap.size = g) : InfAt (w.alloc (.cells (ofV p0 p1 p2 a b c d e s) 34)) g p0 p1 p2 a b c d e s := hg ▸ heap_alloc_last w _
theorem InfAt.lt (h : InfAt w g p0 p1 p2 a b c d e s) : g < w.heap.size := by
  rcases Nat.lt_or_ge g w.heap.size with h1 | h1
  · exact h1
  · unfold InfAt at h; rw [Array.getElem?_eq_none h1] at h; cases h
end

def bk (l : List (Int × Int)) (k : Nat) : Int := (l.getD k (0, 0)).1
def by' (l : List (Int × Int)) (k : Nat) : Int := (l.getD k (0, 0)).2
theorem at_bk (l : List (Int × Int)) (k : Nat) (h : k < l.length) : l[k]? = some (bk l k, by' l k) := by
  rw [List.getElem?_eq_getElem h]; simp [bk, by', List.getD_eq_getElem?_getD, List.getElem?_eq_getElem h]
def mnI (a b : Int) : Int := if b < a then b else a
def mxI (a b : Int) : Int := if a < b then b else a
def knI (n : Int) : Int := if 16777215 < n then 0 else n
def mnP (f : Nat → Int) : Nat → Int
  | 0 => mxI 16 (f 0)
  | k + 1 => mxI 16 (mnI (mnP f k) (f k))
def mxP (f : Nat → Int) : Nat → Int
  | 0 => 16
  | k + 1 => mxI (mxP f k) (f k)
def mfP (f : Nat → Int) : Nat → Int
  | 0 => f 0
  | k + 1 => mnI (mfP f k) (f k)
def xfP (f : Nat → Int) : Nat → Int
  | 0 => 0
  | k + 1 => mxI (xfP f k) (f k)
def ttP (f : Nat → Int) : Nat → Int
  | 0 => 0
  | k + 1 => ttP f k + f k

theorem ttP_nat {l : List (Int × Int)} (h : ∀ x ∈ l, okP x) : ∀ (k : Nat), k ≤ l.length → ∃ tn : Nat, ttP (bk l) k = tn ∧ tn ≤ 65535 * k
  | 0, _ => ⟨0, rfl, by omega⟩
  | k + 1, hk => by
    obtain ⟨t, h1, h2⟩ := ttP_nat h k (by omega)
    obtain ⟨o1, o2, -, -⟩ := h _ (List.mem_of_getElem? (at_bk l k hk))
    simp only [] at o1 o2
    refine ⟨t + (bk l k).toNat, ?_, by omega⟩
    show ttP (bk l) k + bk l k = _
    rw [h1]; omega

set_option maxHeartbeats 400000 in
theorem Of_any (p0 p1 p2 : Int) (s : Nat → Int) (l : List (Int × Int)) (A : Option Addr) (c : Nat) (w : World) (hr : RdP w A l) (hc : l.length ≤ c) (hf : l.length ≤ 100) (hok : ∀ x ∈ l, okP x) (hne : 0 < l.length) :
    Calls Try.prog 12 #[.agg #[.int .i64 p0, .int .i64 p1, .int .i64 p2], .agg #[.int .u8 (s 0), .int .u8 (s 1), .int .u8 (s 2), .int .u8 (s 3), .int .u8 (s 4), .int .u8 (s 5), .int .u8 (s 6), .int .u8 (s 7), .int .u8 (s 8), .int .u8 (s 9), .int .u8 (s 10), .int .u8 (s 11), .int .u8 (s 12), .int .u8 (s 13), .int .u8 (s 14), .int .u8 (s 15)], .slice A l.length c] w fun e w' => e = .returned (.agg (ofV p0 p1 p2 (mnP (bk l) (max 1 (l.length - 1))) (mxP (bk l) l.length) (knI (mfP (by' l) l.length)) (knI (xfP (by' l) l.length)) (ttP (bk l) l.length) s)) ∧ Below w.heap.size w w' := by
  have Hr := Lib.hid hr; clear hr
  have Hok := Lib.hid hok; clear hok
  obtain ⟨m, hm⟩ : ∃ m : Nat, max 1 (l.length - 1) = m := ⟨_, rfl⟩
  have hm1 : (if (1 : Int) < (l.length : Int) - 1 then (l.length : Int) - 1 else 1) = (m : Int) := by split <;> omega
  have hm2 : 1 ≤ m := by omega
  have hm3 : m ≤ l.length := by omega
  rw [hm]
  clear hm
  go_enter Try.func12, Try.ntmps12
  go_upto_region 1 with fail
  apply wp_region_lit
  go_step
  go_step
  go_step
  refine wpList_load_row rfl 24 _ rfl (w.heap.size + 1) rfl _ _ _ _ (heap3_mid _ _ _ _) Try.underlying24 rfl (by kernel_rfl) ?_
  go_step
  go_step
  go_step
  go_step
  go_step
  go_step
  refine wpList_store_new rfl 34 _ _ rfl _ rfl (by simp) rfl (by kernel_rfl) (by rfl) (ofV_one p0 p1 p2 16 16 0 0 0 s) ?_
  intro w3 hw3
  have hb3 : Below w.heap.size w w3 := by rw [← hw3]; repeat (first | exact Below.refl _ _ | assumption | refine below_drewN ?_ _ | refine Below.drew ?_ | refine Below.alloc ?_ (Nat.le_refl _) _ | refine bal ?_ _ | refine bnext ?_ (by assumption))
  have hI : InfAt w3 (w.heap.size + 1 + 1 + 1) p0 p1 p2 16 16 0 0 0 s := by
    rw [← hw3]
    refine InfAt.new ?_
    simp
  have hR : InfAt w3 (w.heap.size + 1 + 1) 0 0 0 0 0 0 0 0 fun _ => 0 := by
    rw [← hw3]
    exact hrow_alloc (InfAt.new (g := w.heap.size + 2) (p0 := 0) (p1 := 0) (p2 := 0) (a := 0) (b := 0) (c := 0) (d := 0) (e := 0) (s := fun _ => 0) (by simp)) _
  clear hw3
  have hBs : w.heap.size ≤ w.heap.size + 1 + 1 + 1 := by omega
  have hRs : w.heap.size ≤ w.heap.size + 1 + 1 := by omega
  have hRB : w.heap.size + 1 + 1 ≠ w.heap.size + 1 + 1 + 1 := by omega
  generalize w.heap.size + 1 + 1 + 1 = B at *
  generalize w.heap.size + 1 + 1 = R at *
  obtain ⟨b, o, rfl, hc1, hc2⟩ := Hr.out 0 _ (at_bk l 0 hne)
  have hbs := cell_lt hc1
  replace hc1 := (hb3.cell (p := ⟨b, o + 0 * 2, none⟩) hbs).trans hc1
  replace hc2 := (hb3.cell (p := ⟨b, o + 0 * 2 + 1, none⟩) hbs).trans hc2
  rw [show o + 0 * 2 = o from by omega] at hc1 hc2
  obtain ⟨x0, hx0⟩ : ∃ x0, bk l 0 = x0 := ⟨_, rfl⟩
  obtain ⟨y0, hy0⟩ : ∃ x0, by' l 0 = x0 := ⟨_, rfl⟩
  rw [hx0] at hc1
  rw [hy0] at hc2
  have hbB : b ≠ B := by omega
  have hj3 := hI.cell 3 (.int .i64 (16)) rfl; have hj4 := hI.cell 4 (.int .i64 (16)) rfl; have hj5 := hI.cell 5 (.int .i64 (0)) rfl; have hj6 := hI.cell 6 (.int .i64 (0)) rfl; have hj7 := hI.cell 7 (.int .i64 (0)) rfl; have hk3 := hI.fr 3; have hk4 := hI.fr 4; have hk5 := hI.fr 5; have hk6 := hI.fr 6; have hk7 := hI.fr 7
  obtain ⟨z0, hz0⟩ : ∃ z, (if 16 < x0 then x0 else 16) = z := ⟨_, rfl⟩
  have HI := Lib.hid hI; clear hI
  have HR := Lib.hid hR; clear hR
  go_wp2_with fail
  clear hj3 hj4 hj5 hj6 hj7 hk3 hk4 hk5 hk6 hk7 hc1 hc2
  go_loopw [39] (fun i wr => ∃ k : Nat, k ≤ m ∧ i = .int .i64 k ∧ Below w.heap.size w wr ∧ InfAt wr B p0 p1 p2 (mnP (bk l) k) 16 y0 0 0 s ∧ InfAt wr R 0 0 0 0 0 0 0 0 fun _ => 0) (fun i _ => m - (intOf i).toNat)
  case atStart =>
    refine ⟨0, by omega, rfl, (hb3.setCell hBs _).setCell hBs _, ?_, (HR.out.other _ _ hRB).other _ _ hRB⟩
    have hz1 : mnP (bk l) 0 = z0 := by rw [← hz0, ← hx0]; rfl
    rw [hz1]
    exact (HI.out.set5 y0).set3 z0
  case round =>
    obtain ⟨k, hk, rfl, hb, hI, hR⟩ := hrel
    by_cases hkk : k < m
    · obtain ⟨b', o', hbo, hc1, hc2⟩ := (Hr.out.below hb) k _ (at_bk l k (by omega))
      obtain ⟨rfl, rfl⟩ : b = b' ∧ o = o' := by injection hbo with h; injection h with h1 h2; exact ⟨h1, h2⟩
      clear hbo
      have Hn : Hid (mnP (bk l) (k + 1) = mxI 16 (mnI (mnP (bk l) k) (bk l k))) := rfl
      generalize mnP (bk l) k = n0 at *
      generalize bk l k = x at *
      generalize by' l k = y at *
      have hj3 := hI.cell 3 (.int .i64 (n0)) rfl; have hj4 := hI.cell 4 (.int .i64 (16)) rfl; have hj5 := hI.cell 5 (.int .i64 (y0)) rfl; have hj6 := hI.cell 6 (.int .i64 (0)) rfl; have hj7 := hI.cell 7 (.int .i64 (0)) rfl; have hk3 := hI.fr 3; have hk4 := hI.fr 4; have hk5 := hI.fr 5; have hk6 := hI.fr 6; have hk7 := hI.fr 7
      have hBw := hI.lt
      have HI := Lib.hid hI; clear hI
      have HR := Lib.hid hR; clear hR
      obtain ⟨a1, ha1⟩ : ∃ a, (if x < n0 then x else n0) = a := ⟨_, rfl⟩
      obtain ⟨a2, ha2⟩ : ∃ a, (if 16 < a1 then a1 else 16) = a := ⟨_, rfl⟩
      go_wp2_with fail
      go_roundw
      case rel =>
        refine ⟨k + 1, by omega, by go_num, bal (hb.setCell hBs _) _, ?_, (HR.out.other _ _ hRB).alloc _⟩
        have hz1 : mxI 16 (mnI n0 x) = a2 := by
          have h1 : mnI n0 x = a1 := ha1
          rw [h1]; exact ha2
        rw [Hn.out, hz1]
        exact (HI.out.set3 a2).alloc _
      case measure => simp [intOf] <;> omega
    · obtain rfl : k = m := by omega
      clear hm1
      obtain ⟨M, hM⟩ : ∃ z, mnP (bk l) k = z := ⟨_, rfl⟩
      rw [hM] at hI
      go_wp2_with fail
      go_loopw [53] (fun i wr => ∃ k : Nat, k ≤ l.length ∧ i = .int .i64 k ∧ Below w.heap.size w wr ∧ InfAt wr B p0 p1 p2 M (mxP (bk l) k) (mfP (by' l) k) (xfP (by' l) k) (ttP (bk l) k) s ∧ InfAt wr R 0 0 0 0 0 0 0 0 fun _ => 0) (fun i _ => l.length - (intOf i).toNat)
      case atStart =>
        refine ⟨0, by omega, rfl, hb, ?_, hR⟩
        have : mfP (by' l) 0 = y0 := hy0
        rw [this]; exact hI
      case round =>
        clear hb hI hR hb3 HI HR
        obtain ⟨k, hk, rfl, hb, hI, hR⟩ := hrel
        by_cases hkk : k < l.length
        · obtain ⟨b', o', hbo, hc1, hc2⟩ := (Hr.out.below hb) k _ (at_bk l k (by omega))
          obtain ⟨rfl, rfl⟩ : b = b' ∧ o = o' := by injection hbo with h; injection h with h1 h2; exact ⟨h1, h2⟩
          clear hbo
          have Ha : Hid (mxP (bk l) (k + 1) = mxI (mxP (bk l) k) (bk l k)) := rfl
          have Hb : Hid (mfP (by' l) (k + 1) = mnI (mfP (by' l) k) (by' l k)) := rfl
          have Hc : Hid (xfP (by' l) (k + 1) = mxI (xfP (by' l) k) (by' l k)) := rfl
          have Hd : Hid (ttP (bk l) (k + 1) = ttP (bk l) k + bk l k) := rfl
          obtain ⟨tn, ht1, ht2⟩ := ttP_nat Hok.out k (by omega)
          obtain ⟨o1, o2, -, -⟩ := Hok.out (bk l k, by' l k) (List.mem_of_getElem? (at_bk l k hkk))
          rw [ht1] at hI Hd
          clear ht1
          generalize mxP (bk l) k = n1 at *
          generalize mfP (by' l) k = n2 at *
          generalize xfP (by' l) k = n3 at *
          generalize bk l k = x at *
          generalize by' l k = y at *
          simp only [] at o1 o2
          have hj3 := hI.cell 3 (.int .i64 (M)) rfl; have hj4 := hI.cell 4 (.int .i64 (n1)) rfl; have hj5 := hI.cell 5 (.int .i64 (n2)) rfl; have hj6 := hI.cell 6 (.int .i64 (n3)) rfl; have hj7 := hI.cell 7 (.int .i64 (tn)) rfl; have hk3 := hI.fr 3; have hk4 := hI.fr 4; have hk5 := hI.fr 5; have hk6 := hI.fr 6; have hk7 := hI.fr 7
          have hBw := hI.lt
          have HI := Lib.hid hI; clear hI
          have HR := Lib.hid hR; clear hR
          obtain ⟨a1, ha1⟩ : ∃ a, (if n1 < x then x else n1) = a := ⟨_, rfl⟩
          obtain ⟨a2, ha2⟩ : ∃ a, (if y < n2 then y else n2) = a := ⟨_, rfl⟩
          obtain ⟨a3, ha3⟩ : ∃ a, (if n3 < y then y else n3) = a := ⟨_, rfl⟩
          go_wp2_with fail
          go_region
          go_wp2_with fail
          go_roundw
          case rel =>
            refine ⟨k + 1, by omega, by go_num, (bal ((((hb.setCell hBs _).setCell hBs _).setCell hBs _).setCell hBs _) _).drew, ?_, ((((HR.out.other _ _ hRB).other _ _ hRB).other _ _ hRB).other _ _ hRB).alloc _⟩
            have hz1 : mxI n1 x = a1 := ha1
            have hz2 : mnI n2 y = a2 := ha2
            have hz3 : mxI n3 y = a3 := ha3
            rw [Ha.out, Hb.out, Hc.out, Hd.out, hz1, hz2, hz3]
            exact ((((HI.out.set4 a1).set5 a2).set6 a3).set7 _).alloc _
          case measure => simp [intOf] <;> omega
        · obtain rfl : k = l.length := by omega
          clear hm3
          go_wp2_with fail
          obtain ⟨n1, hn1⟩ : ∃ z, mxP (bk l) l.length = z := ⟨_, rfl⟩
          obtain ⟨n2, hn2a⟩ : ∃ z, mfP (by' l) l.length = z := ⟨_, rfl⟩
          obtain ⟨n3, hn3a⟩ : ∃ z, xfP (by' l) l.length = z := ⟨_, rfl⟩
          obtain ⟨n4, hn4⟩ : ∃ z, ttP (bk l) l.length = z := ⟨_, rfl⟩
          rw [hn1, hn2a, hn3a, hn4] at hI
          have hj3 := hI.cell 3 (.int .i64 (M)) rfl; have hj4 := hI.cell 4 (.int .i64 (n1)) rfl; have hj5 := hI.cell 5 (.int .i64 (n2)) rfl; have hj6 := hI.cell 6 (.int .i64 (n3)) rfl; have hj7 := hI.cell 7 (.int .i64 (n4)) rfl; have hk3 := hI.fr 3; have hk4 := hI.fr 4; have hk5 := hI.fr 5; have hk6 := hI.fr 6; have hk7 := hI.fr 7
          have hBw := hI.lt
          obtain ⟨n2', hn2⟩ : ∃ z, knI n2 = z := ⟨_, rfl⟩
          obtain ⟨n3', hn3⟩ : ∃ z, knI n3 = z := ⟨_, rfl⟩
          have C2 : Hid (∀ W : World, Calls Try.prog 24 #[.int .i64 n2] W fun e w' => e = .returned (.int .i64 n2') ∧ w' = W) := fun W => hn2 ▸ known_still n2 W
          have C3 : Hid (∀ W : World, Calls Try.prog 24 #[.int .i64 n3] W fun e w' => e = .returned (.int .i64 n3') ∧ w' = W) := fun W => hn3 ▸ known_still n3 W
          have HI := Lib.hid hI; clear hI
          have HR := Lib.hid hR; clear hR
          refine wp_region_still_tail 7 (by kernel_rfl) (by kernel_rfl) ?_
          simp only [List.take_succ_cons, List.take_zero, List.drop_succ_cons, List.drop_zero]
          repeat still_step
          still_call (C2.out _)
          repeat still_step
          still_call (C3.out _)
          repeat still_step
          refine wpStill_nil ?_
          change wpList _ _ _ _ _ wr.drew
          generalize hwd : wr.drew = w2
          replace HI : Hid (InfAt w2 B p0 p1 p2 M n1 n2 n3 n4 s) := hwd ▸ HI.out
          replace HR : Hid (InfAt w2 R 0 0 0 0 0 0 0 0 fun _ => 0) := hwd ▸ HR.out
          have hb2 : Below w.heap.size w w2 := hwd ▸ hb.drew
          clear hwd hj3 hj4 hj5 hj6 hj7 hk3 hk4 hk5 hk6 hk7
          have hI := HI.out
          have hj3 := hI.cell 3 (.int .i64 (M)) rfl; have hj4 := hI.cell 4 (.int .i64 (n1)) rfl; have hj5 := hI.cell 5 (.int .i64 (n2)) rfl; have hj6 := hI.cell 6 (.int .i64 (n3)) rfl; have hj7 := hI.cell 7 (.int .i64 (n4)) rfl; have hk3 := hI.fr 3; have hk4 := hI.fr 4; have hk5 := hI.fr 5; have hk6 := hI.fr 6; have hk7 := hI.fr 7
          clear hI
          go_wp2_with (first | (refine wpList_load_row rfl 34 _ rfl B rfl 34 (ofV p0 p1 p2 M n1 n2' n3' n4 s) (0, 0) _ ?_ Try.underlying34 rfl (by kernel_rfl) ?_; exact (HI.out.set5 _).set6 _) | (refine wpList_store_row (c := ofV 0 0 0 0 0 0 0 0 fun _ => 0) (t := 34) rfl 34 _ _ rfl R rfl rfl ?_ (by kernel_rfl) rfl (ofV_one _ _ _ _ _ _ _ _ _) ?_; exact (HR.out.other _ _ hRB).other _ _ hRB))
          refine bodyPost_ret (results_cell_row (cs := ofV p0 p1 p2 M n1 n2' n3' n4 s) (t := 34) (fr := (0, 0)) (g := R) Try.results12 _ _ _ rfl (setRow_heap _ R _ _ 34 (0, 0) ((HR.out.other _ _ hRB).other _ _ hRB)) Try.underlying34 rfl (by kernel_rfl)) rfl ⟨?_, Below.setRow ((hb2.setCell hBs _).setCell hBs _) hRs _⟩
          rw [hM, hn1, hn2a, hn3a, hn4, hn2, hn3]
end Go.Proofs.Ytikgpohoggpldaa
