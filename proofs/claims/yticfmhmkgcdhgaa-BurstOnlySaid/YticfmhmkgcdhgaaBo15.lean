/-
  burst.All: the iterator.
-/
import Derived.Test.YticfmhmkgcdhgaaBo11
import Derived.Test.YticfmhmkgcdhgaaBo14
import Derived.RangeFuncNested
import Derived.RangeFuncBound
import Derived.RangeFuncCalls
import Derived.RangeFuncLeaves
import Derived.RangeFuncBox
import Derived.Shelf.Abstract
import Derived.Shelf.RegionOpen
import Derived.WalkKit
import Derived.OwnWalkIn
import Derived.TacticsInMore
import Derived.LoopNIn
import Derived.LoopIn
set_option linter.unusedSimpArgs false
set_option linter.unusedVariables false
namespace Go.Proofs.Yticfmhmkgcdhgaa
open Go.RowKit Go.Shelf
open Crc (bl bk)

attribute [local go_sem] Oper.semAt_some

/-- A burst. -/
structure B3 where
  a : Nat
  n : Nat
  p : Nat
instance : Inhabited B3 := ⟨⟨0, 0, 0⟩⟩
def okB (N : Nat) (x : B3) : Prop := bl x.p = x.n ∧ x.p < 65536 ∧ x.p % 2 = 1 ∧ x.a + x.n ≤ N
abbrev BX (N : Nat) := { x : B3 // okB N x }
def encX {N : Nat} (x : BX N) : Array Value := #[.agg #[.int .i64 (x.1.a : Int), .int .i64 (x.1.n : Int), .int .i64 (x.1.p : Int)]]
/-- The sum so many bits ahead of the end. -/
def sumAt (C k : Nat) : Nat := it bk (16 + k) C
def hitC (N C : Nat) (most : Int) (k : Nat) : Prop := sumAt C k % 2 = 1 ∧ ((bl (sumAt C k) : Nat) : Int) ≤ most ∧ bl (sumAt C k) ≤ N - k ∧ sumAt C k < 65536
instance (N C : Nat) (most : Int) (k : Nat) : Decidable (hitC N C most k) := by unfold hitC; infer_instance
def hit (N C : Nat) (most : Int) (k : Nat) : List (BX N) :=
  if h : hitC N C most k ∧ k < N then [⟨⟨N - k - bl (sumAt C k), bl (sumAt C k), sumAt C k⟩, rfl, h.1.2.2.2, h.1.1, by have := h.1.2.2.1; have := h.2; show N - k - bl (sumAt C k) + bl (sumAt C k) ≤ N; omega⟩] else []
def hits (N C : Nat) (most : Int) : Nat → List (BX N)
  | 0 => []
  | k + 1 => hits N C most k ++ hit N C most k
theorem hits_length (N C : Nat) (most : Int) : ∀ k, (hits N C most k).length ≤ k
  | 0 => Nat.le_refl _
  | k + 1 => by
    have := hits_length N C most k
    have h2 : (hit N C most k).length ≤ 1 := by unfold hit; split <;> simp
    rw [hits, List.length_append]; omega
theorem hits_prefix (N C : Nat) (most : Int) (k : Nat) : ∀ m, k ≤ m → hits N C most k <+: hits N C most m
  | 0, h => by obtain rfl : k = 0 := by omega
               exact List.prefix_refl _
  | m + 1, h => by
    rcases Nat.lt_or_ge k (m + 1) with h1 | h1
    · exact (hits_prefix N C most k m (by omega)).trans (List.prefix_append _ _)
    · obtain rfl : k = m + 1 := by omega
      exact List.prefix_refl _
def allH (N C : Nat) (most : Int) : List (BX N) := if most < 1 ∨ 16 < most ∨ C = 0 then [] else hits N C most N

/-- What a round that goes on keeps: what lay below n₀, and the cell Bs. -/
def KpB (n₀ Bs : Nat) (W W' : World) : Prop := Below n₀ W W' ∧ W'.cell? ⟨Bs, 0, none⟩ = W.cell? ⟨Bs, 0, none⟩
theorem KpB.t {n₀ Bs : Nat} {A B C : World} (h : KpB n₀ Bs A B) (k : KpB n₀ Bs B C) : KpB n₀ Bs A C := ⟨h.1.trans k.1, k.2.trans h.2⟩
theorem KpB.b {n₀ Bs : Nat} {w : World} (hn : n₀ ≤ w.heap.size) (hB : Bs < w.heap.size) (W : World) (l : Nat) (o o' : Obj) (hl : w.heap.size ≤ l) (h : W.heap[l]? = some o) (h1 : o.isCells = false) (h2 : o.isWalk = false) : KpB n₀ Bs W (W.putObj l o') :=
  ⟨belowK_b (w := w) hn W l o o' hl h h1 h2, World.cell?_of_block (World.putObj_heap_other (by intro e; simp at e; omega))⟩
theorem KpB.of {n₀ Bs : Nat} {A B : World} (h : Below A.heap.size A B) (hn : n₀ ≤ A.heap.size) (hB : Bs < A.heap.size) : KpB n₀ Bs A B := ⟨h.mono hn, h.cell (p := ⟨Bs, 0, none⟩) hB⟩
theorem below_grownNone {A B : World} (h : Below A.heap.size A B) : A.grownBy B none := ⟨h.os, h.tape, h.output, h.size, fun k hk _ => h.block k hk⟩
theorem AbidesFrom.below {β : Type} {n : Nat} {J : β → World → Prop} (h : AbidesFrom n J) {s : β} {A B : World} (hs : J s A) (hb : Below A.heap.size A B) : J s B := h s A B none hs (below_grownNone hb) (fun r e => by cases e)

theorem wpIn_scope {n : Nat} {P : Program} {c : Code} {Q : Exit → Act → World → Prop} {a : Act} {w : World} (h : c.wpIn Fence.wide n P (Exit.noGoto Q) a w) : (Code.scope c).wpIn Fence.wide n P Q a w := wpIn_wide.2 (wp_scope_straight (wpIn_wide.1 h))
set_option maxRecDepth 100000 in
set_option maxHeartbeats 4000000 in
theorem all1_in (n : Nat) (hn : 1 ≤ n) (l Bs Ms n₀ : Nat) (bs : List UInt8) (A : Option Addr) (cap : Nat) (most : Int) (hlen : bs.length ≤ 10000) (J Jx : List (BX (8 * bs.length)) → World → Prop) (W : World)
    (hJ : AbidesFrom W.heap.size J)
    (hY : ∀ pre x W1, J pre W1 → pre.length < 8 * bs.length → YieldAt Fence.wide (n - 1) Try.prog l (encX x) W1 fun e W' =>
      (e = .returned (.bool true) ∧ J (pre ++ [x]) W' ∧ KpB n₀ Ms W1 W') ∨ (e = .returned (.bool false) ∧ Jx (pre ++ [x]) W'))
    (hn₀ : n₀ ≤ W.heap.size) (hMs : Ms < W.heap.size) (hB : W.cell? ⟨Bs, 0, none⟩ = some (.slice A bs.length cap)) (hcap : bs.length ≤ cap) (hM : W.cell? ⟨Ms, 0, none⟩ = some (.int .i64 most)) (hr : Rd W A (bv bs)) (h0 : J [] W) :
    CallsIn Fence.wide n Try.prog 33 #[.func (.yield l) #[] #[], .pointer (some ⟨Bs, 0, none⟩), .pointer (some ⟨Ms, 0, none⟩)] W fun e W' => (∃ v, e = .returned v) ∧
      ((∃ ys, ys = allH (8 * bs.length) (crc16 0 bs) most ∧ J ys W') ∨ (∃ pre, pre <+: allH (8 * bs.length) (crc16 0 bs) most ∧ Jx pre W')) := by
  have hro : Fence.wide.round = none := rfl
  have HS : Hid (∀ W1, Below W.heap.size W W1 → ∀ H, W1.heap.size = H → Calls Try.prog 34 #[.slice (some ⟨H, 0, none⟩) 1 1] (W1.alloc (.cells #[.slice A bs.length cap] 22)) fun e w' => e = .returned (.int .i64 (crc16 0 bs)) ∧ Below W1.heap.size W1 w') := by
    rintro W1 hW1 H rfl
    have hbs : BS W1 (.slice A bs.length cap) bs := BS.of (hr.below hW1) hcap
    refine (Sum16_any [bs] _ _ _ (BSS.one hbs 22 rfl) (by simp) (by simp; omega)).mono ?_
    rintro e w' ⟨rfl, hb⟩
    refine ⟨by simp, bnext (bal (Below.refl _ _) _) hb⟩
  have HC := crc16_lt 0 (by omega) bs
  have Hall : Hid (allH (8 * bs.length) (crc16 0 bs) most = if most < 1 ∨ 16 < most ∨ crc16 0 bs = 0 then [] else hits (8 * bs.length) (crc16 0 bs) most (8 * bs.length)) := rfl
  generalize crc16 0 bs = C at *
  generalize allH (8 * bs.length) C most = AL at *
  have Hh : Hid (∀ k, hits (8 * bs.length) C most (k + 1) = hits (8 * bs.length) C most k ++ hit (8 * bs.length) C most k) := fun k => rfl
  have Hlh := Lib.hid (hits_length (8 * bs.length) C most)
  have Hsl : Hid (∀ k, sumAt C k < 65536) := fun k => Crc.itb_lt _ _ HC
  have Hss : Hid (∀ k, sumAt C (k + 1) = bk (sumAt C k)) := fun k => rfl
  have Hno : Hid (∀ k, ¬ hitC (8 * bs.length) C most k → hit (8 * bs.length) C most k = []) := fun k h => by unfold hit; rw [dif_neg (fun h' => h h'.1)]
  have Hyes : Hid (∀ k, k < 8 * bs.length → hitC (8 * bs.length) C most k → ∃ x : BX (8 * bs.length), hit (8 * bs.length) C most k = [x] ∧ x.1 = ⟨8 * bs.length - k - bl (sumAt C k), bl (sumAt C k), sumAt C k⟩) := fun k h1 h => by
    unfold hit; rw [dif_pos ⟨h, h1⟩]; exact ⟨_, rfl, rfl⟩
  have HJ := Lib.hid hJ
  have HY := Lib.hid hY
  clear hJ hY
  refine callsIn_of_wp Try.func33 rfl trivial ?_ hro
  simp only [Try.ntmps33, List.size_toArray, List.length_cons, List.length_nil, Nat.reduceAdd, Nat.reduceSub, Array.replicate_succ, Array.replicate_zero, List.push_toArray, List.append_toArray, List.nil_append, List.cons_append]
  refine wpIn_scope ?_
  by_cases hbad : most < 1 ∨ 16 < most ∨ C = 0
  · have hA : AL = [] := by rw [Hall.out, if_pos hbad]
    subst hA
    have HQ : Hid (∀ w1, Below W.heap.size W w1 → (∃ ys, ys = ([] : List (BX (8 * bs.length))) ∧ J ys w1) ∨ (∃ pre, pre <+: ([] : List (BX (8 * bs.length))) ∧ Jx pre w1)) := fun w1 h => .inl ⟨_, rfl, AbidesFrom.below (J := J) HJ.out h0 h⟩
    clear Hall Hh Hlh Hss Hno Hyes HY HJ
    rcases hbad with h | h | h
    · clear h0 hr
      gi_wp2_with (refine ⟨trivial, ?_⟩; gi_at_call 34; refine (callsIn_wide.2 (HS.out _ (Below.refl _ _) _ rfl)).mono ?_; rintro e w1 ⟨rfl, hb1⟩; have hM1 := (hb1.cell (p := ⟨Ms, 0, none⟩) hMs).trans hM)
      try rw [Exit.noGoto_ret]
      refine bodyPost_ret (results_none rfl _ _ _) rfl ⟨⟨_, rfl⟩, HQ.out _ hb1⟩
    · clear h0 hr
      have h1 : ¬ most < 1 := by omega
      have h2 : most > 16 := h
      gi_wp2_with (refine ⟨trivial, ?_⟩; gi_at_call 34; refine (callsIn_wide.2 (HS.out _ (Below.refl _ _) _ rfl)).mono ?_; rintro e w1 ⟨rfl, hb1⟩; have hM1 := (hb1.cell (p := ⟨Ms, 0, none⟩) hMs).trans hM)
      try rw [Exit.noGoto_ret]
      refine bodyPost_ret (results_none rfl _ _ _) rfl ⟨⟨_, rfl⟩, HQ.out _ hb1⟩
    · subst h
      clear h0 hr
      by_cases h1 : most < 1
      · gi_wp2_with (refine ⟨trivial, ?_⟩; gi_at_call 34; refine (callsIn_wide.2 (HS.out _ (Below.refl _ _) _ rfl)).mono ?_; rintro e w1 ⟨rfl, hb1⟩; have hM1 := (hb1.cell (p := ⟨Ms, 0, none⟩) hMs).trans hM)
        try rw [Exit.noGoto_ret]
        refine bodyPost_ret (results_none rfl _ _ _) rfl ⟨⟨_, rfl⟩, HQ.out _ hb1⟩
      by_cases h2 : most > 16
      · gi_wp2_with (refine ⟨trivial, ?_⟩; gi_at_call 34; refine (callsIn_wide.2 (HS.out _ (Below.refl _ _) _ rfl)).mono ?_; rintro e w1 ⟨rfl, hb1⟩; have hM1 := (hb1.cell (p := ⟨Ms, 0, none⟩) hMs).trans hM)
        try rw [Exit.noGoto_ret]
        refine bodyPost_ret (results_none rfl _ _ _) rfl ⟨⟨_, rfl⟩, HQ.out _ hb1⟩
      · gi_wp2_with (refine ⟨trivial, ?_⟩; gi_at_call 34; refine (callsIn_wide.2 (HS.out _ (Below.refl _ _) _ rfl)).mono ?_; rintro e w1 ⟨rfl, hb1⟩; have hM1 := (hb1.cell (p := ⟨Ms, 0, none⟩) hMs).trans hM)
        try rw [Exit.noGoto_ret]
        refine bodyPost_ret (results_none rfl _ _ _) rfl ⟨⟨_, rfl⟩, HQ.out _ hb1⟩
  · have hA : AL = hits (8 * bs.length) C most (8 * bs.length) := by rw [Hall.out, if_neg hbad]
    subst hA
    have h1 : ¬ most < 1 := by omega
    have h2 : ¬ most > 16 := by omega
    have h3 : ((C : Int) == 0) = false := by rw [beq_eq_false_iff_ne]; omega
    clear hbad hr Hall
    gi_wp2_with (refine ⟨trivial, ?_⟩; gi_at_call 34; refine (callsIn_wide.2 (HS.out _ (Below.refl _ _) _ rfl)).mono ?_; rintro e w1 ⟨rfl, hb1⟩; have hM1 := (hb1.cell (p := ⟨Ms, 0, none⟩) hMs).trans hM)
    gi_loopw [4, 20] (fun s i wr => ∃ k : Nat, k ≤ 16 ∧ i = .int .i64 (k : Int) ∧ s = .int .i64 (it bk k C : Nat) ∧ wr = w1) (fun _ i _ => 16 - (intOf i).toNat)
    case atStart => exact ⟨0, by omega, rfl, rfl, rfl⟩
    case round =>
      obtain ⟨k, hk, rfl, rfl, rfl⟩ := hrel
      by_cases hk16 : k < 16
      · have hlt := Crc.itb_lt k C HC
        have Hst : Hid (it bk (k + 1) C = bk (it bk k C)) := rfl
        generalize it bk k C = s at *
        gi_wp2_with (refine ⟨trivial, ?_⟩; gi_at_call 35; refine (callsIn_wide.2 (back_any s hlt _)).mono ?_; rintro e w' ⟨rfl, rfl⟩)
        go_roundw
        case rel => exact ⟨k + 1, by omega, by go_num, by rw [Hst.out], by first | rfl | trivial⟩
        case measure => simp [intOf] <;> omega
      · obtain rfl : k = 16 := by omega
        obtain ⟨wo, rfl⟩ : ∃ wo : World, wo = wr := ⟨_, rfl⟩
        rw [show it bk 16 C = sumAt C 0 from rfl, show ((16 : Nat) : Int) = 16 from rfl]
        have hB1 := (hb1.cell (p := ⟨Bs, 0, none⟩) (cell_lt hB)).trans hB
        have HJ1 : Hid (J (hits (8 * bs.length) C most 0) wo) := AbidesFrom.below (J := J) HJ.out h0 hb1
        have HK1 : Hid (KpB n₀ Ms W wo) := KpB.of hb1 hn₀ hMs
        clear h0 h1 h2 h3 HS hb1
        have hN : ((8 * bs.length : Nat) : Int) = 8 * (bs.length : Int) := by omega
        obtain ⟨N, hNe⟩ : ∃ N, 8 * bs.length = N := ⟨_, rfl⟩
        have hNl : N ≤ 80000 := by omega
        gi_wp2
        apply wpIn_label
        gi_wp2
        have hst : ∀ k, k ≤ 8 * bs.length → ((8 * (bs.length : Int) - (k : Int)) = ((8 * bs.length - k : Nat) : Int)) := fun k h => by omega
        have Hst := Lib.hid hst
        clear hst hN
        gi_loopw [4, 5] (fun s en wr2 => ∃ k : Nat, k ≤ 8 * bs.length ∧ en = .int .i64 ((8 * bs.length - k : Nat) : Int) ∧ s = .int .i64 (sumAt C k : Nat) ∧ Hid (J (hits (8 * bs.length) C most k) wr2) ∧ Hid (KpB n₀ Ms W wr2)) (fun _ en _ => (intOf en).toNat)
        case atStart => exact ⟨0, by omega, by first | rfl | (simp; done) | (congr 1; omega), rfl, HJ1.out, HK1.out⟩
        case round =>
          clear HJ1 HK1 hB1 hM1
          obtain ⟨k, hk, rfl, rfl, HJk, HKk⟩ := hrel
          have hMk : wr.cell? ⟨Ms, 0, none⟩ = some (.int .i64 most) := HKk.out.2.trans hM
          have hMw : Ms < wr.heap.size := Nat.lt_of_lt_of_le hMs HKk.out.1.size
          by_cases hkN : k < 8 * bs.length
          · obtain ⟨E, hE⟩ : ∃ E, 8 * bs.length - k = E := ⟨_, rfl⟩
            have hE1 : (E : Int) > 0 := by omega
            have hE2 : (E : Int) ≤ 80000 := by omega
            have hsl := Hsl.out k
            have Hnx := Lib.hid (Hss.out k)
            have hhit : hitC (8 * bs.length) C most k ↔ (sumAt C k % 2 = 1 ∧ ((bl (sumAt C k) : Nat) : Int) ≤ most ∧ bl (sumAt C k) ≤ E) := by unfold hitC; rw [hE]; exact ⟨fun h => ⟨h.1, h.2.1, h.2.2.1⟩, fun h => ⟨h.1, h.2.1, h.2.2, hsl⟩⟩
            have Hhit := Lib.hid hhit
            have Hy2 := Lib.hid (Hyes.out k hkN)
            have Hof := Lib.hid (of_any (sumAt C k) E hsl (by omega) wr)
            rw [hE] at Hy2 ⊢
            have HEk : Hid (8 * bs.length - (k + 1) = E - 1) := by show _ = _; omega
            have HEb : Hid (E ≤ 80000 ∧ 1 ≤ E) := by constructor <;> omega
            clear hhit hE
            generalize sumAt C k = s at *
            have HOf : Hid (Calls Try.prog 36 #[.int .i64 s, .int .i64 E] wr fun e w' => e = .returned (.agg #[.int .i64 ((E : Int) - (bl s : Nat)), .int .i64 (bl s : Nat), .int .i64 s]) ∧ Below wr.heap.size wr w') := Hof.out
            clear Hof
            obtain ⟨n2, hn2⟩ : ∃ n2, bl s = n2 := ⟨_, rfl⟩
            rw [hn2] at HOf Hhit Hy2
            have hn16 : n2 ≤ 16 := by rw [← hn2]; exact Crc.bl_le s 16 (by omega)
            clear hn2
            by_cases g1 : s % 2 = 1
            · have d1 : (s : Int) % 2 > 0 := by omega
              by_cases g2 : (n2 : Int) ≤ most
              · by_cases g3 : n2 ≤ E
                · obtain ⟨x, hx1, hx2⟩ := Hy2.out (Hhit.out.2 ⟨g1, g2, g3⟩)
                  have d3 : (E : Int) - n2 ≥ 0 := by omega
                  have Hen : Hid (encX x = #[.agg #[.int .i64 ((E : Int) - n2), .int .i64 n2, .int .i64 s]]) := by
                    show _ = _
                    unfold encX
                    rw [hx2]
                    have : ((E - n2 : Nat) : Int) = (E : Int) - n2 := by omega
                    simp only [this]
                  have Hx1 := Lib.hid hx1
                  have Hlk := Lib.hid (Nat.lt_of_le_of_lt (Hlh.out k) hkN)
                  clear hx1 hx2 Hy2 Hhit Hyes Hno
                  gi_wp2_with (first | (refine ⟨trivial, ?_⟩; gi_at_call 36; refine (callsIn_wide.2 HOf.out).mono ?_; rintro e w2 ⟨rfl, hb2⟩; have hM2 := (hb2.cell (p := ⟨Ms, 0, none⟩) hMw).trans hMk; have hM3 : (w2.alloc (.cells #[.int .i64 ((E : Int) - n2), .int .i64 n2, .int .i64 s] 28)).cell? ⟨Ms, 0, none⟩ = some (.int .i64 most) := ((bal (Below.refl _ w2) _).cell (p := ⟨Ms, 0, none⟩) (cell_lt hM2)).trans hM2; have Hb3 := Lib.hid (bal hb2 (.cells #[.int .i64 ((E : Int) - n2), .int .i64 n2, .int .i64 s] 28)); clear hb2; obtain ⟨fn, tmps, assign, body, hy, hR⟩ := HY.out _ x _ (AbidesFrom.below (J := J) HJ.out HJk.out Hb3.out) Hlk.out; rw [Hen.out] at hy; have HRd := Lib.hid hR; clear hR))
                  refine HRd.out.mono ?_
                  rintro e W3 (⟨rfl, hJ3, hk3⟩ | ⟨rfl, hJx3⟩)
                  · have HJ3 : Hid (J (hits (8 * bs.length) C most (k + 1)) W3) := by show J _ _; rw [Hh.out, Hx1.out]; exact hJ3
                    have HK3 : Hid (KpB n₀ Ms W W3) := (HKk.out.t (KpB.of Hb3.out (Nat.le_trans hn₀ HKk.out.1.size) hMw)).t hk3
                    clear hJ3 hk3 hy HRd
                    gi_wp2_with (refine ⟨trivial, ?_⟩; gi_at_call 35; refine (callsIn_wide.2 (back_any s hsl _)).mono ?_; rintro e w' ⟨rfl, rfl⟩)
                    go_roundw
                    case rel => exact ⟨k + 1, by omega, by rw [HEk.out]; have := HEb.out; first | (congr 1; omega) | (simp; omega), by rw [Hnx.out], HJ3.out, HK3.out⟩
                    case measure => have := HEb.out; simp [intOf] <;> omega
                  · have HJ3 : Hid (Jx (hits (8 * bs.length) C most (k + 1)) W3) := by show Jx _ _; rw [Hh.out, Hx1.out]; exact hJx3
                    clear hJx3 hy HRd
                    gi_wp2
                    try rw [Exit.noGoto_normal]
                    go_end0
                    exact ⟨⟨_, rfl⟩, .inr ⟨_, hits_prefix _ _ _ _ _ hkN, HJ3.out⟩⟩
                · have hno : ¬ hitC (8 * bs.length) C most k := fun h => by have := Hhit.out.1 h; omega
                  have Hn := Lib.hid hno
                  have d3 : ¬ (E : Int) - n2 ≥ 0 := by omega
                  clear hno Hyes Hy2 HY Hlh Hsl
                  gi_wp2_with (first | (refine ⟨trivial, ?_⟩; gi_at_call 36; refine (callsIn_wide.2 HOf.out).mono ?_; rintro e w2 ⟨rfl, hb2⟩; have hM2 := (hb2.cell (p := ⟨Ms, 0, none⟩) hMw).trans hMk; have hM3 : (w2.alloc (.cells #[.int .i64 ((E : Int) - n2), .int .i64 n2, .int .i64 s] 28)).cell? ⟨Ms, 0, none⟩ = some (.int .i64 most) := ((bal (Below.refl _ w2) _).cell (p := ⟨Ms, 0, none⟩) (cell_lt hM2)).trans hM2; have Hb3 := Lib.hid (bal hb2 (.cells #[.int .i64 ((E : Int) - n2), .int .i64 n2, .int .i64 s] 28)); clear hb2) | (refine ⟨trivial, ?_⟩; gi_at_call 35; refine (callsIn_wide.2 (back_any s hsl _)).mono ?_; rintro e w' ⟨rfl, rfl⟩))
                  refine ⟨fun _ h => (by cases h), ?_⟩
                  gi_wp2_with (refine ⟨trivial, ?_⟩; gi_at_call 35; refine (callsIn_wide.2 (back_any s hsl _)).mono ?_; rintro e w' ⟨rfl, rfl⟩)
                  go_roundw
                  case rel => exact ⟨k + 1, by omega, by rw [HEk.out]; have := HEb.out; first | (congr 1; omega) | (simp; omega), by rw [Hnx.out], by rw [Hh.out, Hno.out k Hn.out, List.append_nil]; exact AbidesFrom.below (J := J) HJ.out HJk.out Hb3.out, HKk.out.t (KpB.of Hb3.out (Nat.le_trans hn₀ HKk.out.1.size) hMw)⟩
                  case measure => have := HEb.out; simp [intOf] <;> omega
              · have hno : ¬ hitC (8 * bs.length) C most k := fun h => g2 (Hhit.out.1 h).2.1
                have Hn := Lib.hid hno
                clear hno Hyes Hy2 HY Hlh Hsl
                gi_wp2_with (first | (refine ⟨trivial, ?_⟩; gi_at_call 36; refine (callsIn_wide.2 HOf.out).mono ?_; rintro e w2 ⟨rfl, hb2⟩; have hM2 := (hb2.cell (p := ⟨Ms, 0, none⟩) hMw).trans hMk; have hM3 : (w2.alloc (.cells #[.int .i64 ((E : Int) - n2), .int .i64 n2, .int .i64 s] 28)).cell? ⟨Ms, 0, none⟩ = some (.int .i64 most) := ((bal (Below.refl _ w2) _).cell (p := ⟨Ms, 0, none⟩) (cell_lt hM2)).trans hM2; have Hb3 := Lib.hid (bal hb2 (.cells #[.int .i64 ((E : Int) - n2), .int .i64 n2, .int .i64 s] 28)); clear hb2) | (refine ⟨trivial, ?_⟩; gi_at_call 35; refine (callsIn_wide.2 (back_any s hsl _)).mono ?_; rintro e w' ⟨rfl, rfl⟩))
                refine ⟨fun _ h => (by cases h), ?_⟩
                gi_wp2_with (refine ⟨trivial, ?_⟩; gi_at_call 35; refine (callsIn_wide.2 (back_any s hsl _)).mono ?_; rintro e w' ⟨rfl, rfl⟩)
                go_roundw
                case rel => exact ⟨k + 1, by omega, by rw [HEk.out]; have := HEb.out; first | (congr 1; omega) | (simp; omega), by rw [Hnx.out], by rw [Hh.out, Hno.out k Hn.out, List.append_nil]; exact AbidesFrom.below (J := J) HJ.out HJk.out Hb3.out, HKk.out.t (KpB.of Hb3.out (Nat.le_trans hn₀ HKk.out.1.size) hMw)⟩
                case measure => have := HEb.out; simp [intOf] <;> omega
            · have d1 : ¬ (s : Int) % 2 > 0 := by omega
              have hno : ¬ hitC (8 * bs.length) C most k := fun h => g1 (Hhit.out.1 h).1
              have Hn := Lib.hid hno
              clear hno Hyes Hy2 HY Hlh Hsl
              gi_wp2_with (first | (refine ⟨trivial, ?_⟩; gi_at_call 36; refine (callsIn_wide.2 HOf.out).mono ?_; rintro e w2 ⟨rfl, hb2⟩; have hM2 := (hb2.cell (p := ⟨Ms, 0, none⟩) hMw).trans hMk; have hM3 : (w2.alloc (.cells #[.int .i64 ((E : Int) - n2), .int .i64 n2, .int .i64 s] 28)).cell? ⟨Ms, 0, none⟩ = some (.int .i64 most) := ((bal (Below.refl _ w2) _).cell (p := ⟨Ms, 0, none⟩) (cell_lt hM2)).trans hM2; have Hb3 := Lib.hid (bal hb2 (.cells #[.int .i64 ((E : Int) - n2), .int .i64 n2, .int .i64 s] 28)); clear hb2) | (refine ⟨trivial, ?_⟩; gi_at_call 35; refine (callsIn_wide.2 (back_any s hsl _)).mono ?_; rintro e w' ⟨rfl, rfl⟩))
              refine ⟨fun _ h => (by cases h), ?_⟩
              gi_wp2_with (refine ⟨trivial, ?_⟩; gi_at_call 35; refine (callsIn_wide.2 (back_any s hsl _)).mono ?_; rintro e w' ⟨rfl, rfl⟩)
              go_roundw
              case rel => exact ⟨k + 1, by omega, by rw [HEk.out]; have := HEb.out; first | (congr 1; omega) | (simp; omega), by rw [Hnx.out], by rw [Hh.out, Hno.out k Hn.out, List.append_nil]; exact AbidesFrom.below (J := J) HJ.out HJk.out Hb3.out, HKk.out.t (KpB.of Hb3.out (Nat.le_trans hn₀ HKk.out.1.size) hMw)⟩
              case measure => have := HEb.out; simp [intOf] <;> omega
          · obtain rfl : k = 8 * bs.length := by omega
            have hz : ((8 * bs.length - 8 * bs.length : Nat) : Int) = 0 := by omega
            rw [hz]
            clear hz
            gi_wp2
            try rw [Exit.noGoto_normal]
            go_end0
            exact ⟨⟨_, rfl⟩, .inl ⟨_, rfl, HJk.out⟩⟩

theorem all_stops (n : Nat) (hn : 1 ≤ n) (Bs Ms n₀ : Nat) (bs : List UInt8) (A : Option Addr) (cap : Nat) (most : Int) (hlen : bs.length ≤ 10000) (w : World) (hn₀ : n₀ ≤ w.heap.size)
    (hB : w.cell? ⟨Bs, 0, none⟩ = some (.slice A bs.length cap)) (hcap : bs.length ≤ cap) (hM : w.cell? ⟨Ms, 0, none⟩ = some (.int .i64 most)) (hr : Rd w A (bv bs)) :
    SeqStopsK Fence.wide n Try.prog 33 #[.pointer (some ⟨Bs, 0, none⟩), .pointer (some ⟨Ms, 0, none⟩)] (encX (N := 8 * bs.length)) (KpB n₀ Ms) (fun ys => ys = allH (8 * bs.length) (crc16 0 bs) most)
      (fun pre => pre <+: allH (8 * bs.length) (crc16 0 bs) most) (8 * bs.length) w := fun l J Jx W hW hJ _ hY h0 => by
  have hB' := (hW.cell (p := ⟨Bs, 0, none⟩) (cell_lt hB)).trans hB
  have hM' := (hW.cell (p := ⟨Ms, 0, none⟩) (cell_lt hM)).trans hM
  exact all1_in n hn l Bs Ms n₀ bs A cap most hlen J Jx W hJ hY (Nat.le_trans hn₀ hW.size) (Nat.lt_of_lt_of_le (cell_lt hM) hW.size) hB' hcap hM' (hr.below hW) h0

set_option maxHeartbeats 1000000 in
theorem All_any (bs : List UInt8) (A : Option Addr) (c : Nat) (most : Int) (w : World) (hr : Rd w A (bv bs)) (hl : bs.length ≤ 10000) (hn : A = none → bs.length = 0 ∧ c = 0) :
    Calls Try.prog 27 #[.slice A bs.length c, .int .i64 most] w fun e w' => e = .returned (.func (.func 33) #[] #[.pointer (some ⟨w.heap.size, 0, none⟩), .pointer (some ⟨w.heap.size + 1, 0, none⟩)]) ∧ Below w.heap.size w w' ∧
      Boxed w' (w.heap.size + 1) 3 (.int .i64 most) ∧ ∃ A' c', w'.cell? ⟨w.heap.size, 0, none⟩ = some (.slice A' bs.length c') ∧ bs.length ≤ c' ∧ Rd w' A' (bv bs) := by
  have HC := Lib.hid (fun W (h : Below w.heap.size w W) => clone_any bs A c W (hr.below h) (by omega) hn)
  clear hr hn
  go_enter Try.func27, Try.ntmps27
  go_wp2_with fail
  refine (HC.out _ (by repeat (first | exact Below.refl _ _ | assumption | refine below_drewN ?_ _ | refine Below.drew ?_ | refine Below.alloc ?_ (Nat.le_refl _) _ | refine bal ?_ _ | refine bnext ?_ (by assumption)))).mono ?_
  rintro e w1 ⟨v, rfl, Hown, hb⟩
  have hb1 : Below w.heap.size w w1 := bnext (by repeat (first | exact Below.refl _ _ | assumption | refine below_drewN ?_ _ | refine Below.drew ?_ | refine Below.alloc ?_ (Nat.le_refl _) _ | refine bal ?_ _ | refine bnext ?_ (by assumption))) hb
  have hm : Boxed w1 (w.heap.size + 1) 3 (.int .i64 most) := by
    have h2 := heap_alloc_last (w.alloc (.cells #[.slice A bs.length c] 22)) (.cells #[.int .i64 most] 3)
    rw [World.size_alloc] at h2
    exact hrow_below h2 hb
  have hB : w1.cell? ⟨w.heap.size, 0, none⟩ = some (.slice A bs.length c) := (hb.cell (p := ⟨w.heap.size, 0, none⟩) (by simp <;> omega)).trans (by go_simp)
  have hf : w1.frozen? ⟨w.heap.size, 0, none⟩ = false := (hb.frozen (p := ⟨w.heap.size, 0, none⟩) (by simp <;> omega)).trans (free_blk (hrow_alloc (heap_alloc_last w _) _) 0)
  obtain ⟨A', c', rfl, hcc, -, hrd, -⟩ := own_rd4 Hown.out
  have Hrd := Lib.hid hrd
  have hbk : Hid (∀ k o, A' = some ⟨k, o, none⟩ → w.heap.size + 1 < k) := by
    rintro k o rfl
    have := (Hown.out.lt k rfl).1
    simp at this
    omega
  clear hrd Hown HC hb
  go_wp2_with fail
  go_ret
  refine ⟨rfl, hb1.setCell (p := ⟨w.heap.size, 0, none⟩) (Nat.le_refl _) _, ?_, A', c', ?_, hcc, ?_⟩
  · exact hm.other (by omega) _
  · exact World.cell?_setCell_same' _ _ _ (by rw [hB]; rfl)
  · intro j u hu
    obtain ⟨b, o, rfl, hc⟩ := Hrd.out j u hu
    have := hbk.out b o rfl
    exact ⟨b, o, rfl, (World.cell?_setCell_far _ _ _ _ (by simp; omega)).trans hc⟩
end Go.Proofs.Yticfmhmkgcdhgaa
