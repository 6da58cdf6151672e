/-
  digest's take: its walk.
-/
import Derived.Test.YtibhhebfenkeaaaDoorMix04
import Derived.Test.YtibhhebfenkeaaaDoorRowLaws
import Derived.Test.YtibhhebfenkeaaaDoorClone01
import Derived.StillTailTactics
namespace Go.Proofs.YtibhhebfenkeaaaDoor
open Go.RowKit

/-- The tables. -/
def Tabs (w : World) : Prop := (∀ i, i < 64 → w.cell? ⟨0, i, none⟩ = some (.int .u32 (sn i : Nat))) ∧ (∀ i, i < 16 → w.cell? ⟨1, i, none⟩ = some (.int .i64 (turnsL.getD i 0 : Nat)))
theorem Tabs.fr {S : Nat → Prop} {w w' : World} (h : Tabs w) (f : Fr S w w') (h0 : ¬ S 0) (h1 : ¬ S 1) : Tabs w' := ⟨fun i hi => f.cell (h.1 i hi) h0, fun i hi => f.cell (h.2 i hi) h1⟩
theorem Tabs.below {w w' : World} (h : Tabs w) (hb : Below w.heap.size w w') : Tabs w' := h.fr (S := fun _ => False) (Fr.of hb) id id
theorem Tabs.two {w : World} (h : Tabs w) : 1 < w.heap.size := cell_lt (h.2 0 (by omega))
/-- Sixteen words in a block. -/
def MAt (w : World) (M : Nat) (f : Nat → Nat) : Prop := (∀ t, t < 16 → w.cell? ⟨M, t, none⟩ = some (.int .u32 (f t : Nat))) ∧ ∀ t, w.frozen? ⟨M, t, none⟩ = false
theorem MAt.below {w w' : World} {M : Nat} {f : Nat → Nat} (h : MAt w M f) (hb : Below w.heap.size w w') : MAt w' M f := by
  have hM : M < w.heap.size := cell_lt (h.1 0 (by omega))
  exact ⟨fun t ht => (hb.cell (p := ⟨M, t, none⟩) hM).trans (h.1 t ht), fun t => (hb.frozen (p := ⟨M, t, none⟩) hM).trans (h.2 t)⟩
theorem MAt.block {w w' : World} {M : Nat} {f : Nat → Nat} (h : MAt w M f) (hb : w'.heap[M]? = w.heap[M]?) : MAt w' M f := ⟨fun t ht => (World.cell?_of_block (w := w) (a := ⟨M, t, none⟩) hb).trans (h.1 t ht), fun t => (World.frozen?_of_block (w := w) (a := ⟨M, t, none⟩) hb).trans (h.2 t)⟩
theorem MAt.set {w : World} {M : Nat} {f g : Nat → Nat} (h : MAt w M f) {i v : Nat} (hi : i < 16) (hg : ∀ t, t < 16 → g t = if t = i then v else f t) : MAt (w.setCell ⟨M, i, none⟩ (.int .u32 (v : Nat))) M g := by
  refine ⟨fun t ht => ?_, fun t => (World.frozen?_setCell _ _ _ _).trans (h.2 t)⟩
  rw [hg t ht]
  by_cases e : t = i
  · subst e
    rw [if_pos rfl]
    exact World.cell?_setCell_same' _ _ _ (by rw [h.1 t ht]; rfl)
  · rw [if_neg e]
    exact (World.cell?_setCell_other _ _ _ _ (by simp [e])).trans (h.1 t ht)
theorem MAt.congr {w : World} {M : Nat} {f g : Nat → Nat} (h : MAt w M f) (hg : ∀ t, t < 16 → g t = f t) : MAt w M g := ⟨fun t ht => by rw [hg t ht]; exact h.1 t ht, h.2⟩
/-- The words so far. -/
def mW (ch : List UInt8) (i j t : Nat) : Nat := if t < i then wdF ch 0 t else if t = i then pw ch (4 * i) j else 0
theorem mW_next (ch : List UInt8) (i j : Nat) (t : Nat) : mW ch i (j + 1) t = if t = i then pw ch (4 * i) (j + 1) else mW ch i j t := by
  unfold mW
  by_cases h : t = i
  · subst h; simp
  · rw [if_neg h, if_neg h]
    simp only [if_neg h]
theorem mW_word (ch : List UInt8) (i t : Nat) : mW ch (i + 1) 0 t = mW ch i 4 t := by
  unfold mW
  by_cases h : t < i
  · rw [if_pos h, if_pos (by omega)]
  · by_cases h2 : t = i
    · subst h2
      simp [wdF]
    · rw [if_neg h, if_neg h2, if_neg (by omega)]
      split <;> simp [pw]
/-- A row of four numbers and more. -/
def stC (s : S4) : List Value := [.int .u32 (s.a : Nat), .int .u32 (s.b : Nat), .int .u32 (s.c : Nat), .int .u32 (s.d : Nat)]

/-- One of the four. -/
def S4.g (s : S4) (i : Nat) : Nat := if i = 0 then s.a else if i = 1 then s.b else if i = 2 then s.c else s.d
/-- The first k of them summed. -/
def mixd (s x : S4) (k : Nat) : S4 := ⟨if 0 < k then (s.a + x.a) % 4294967296 else s.a, if 1 < k then (s.b + x.b) % 4294967296 else s.b, if 2 < k then (s.c + x.c) % 4294967296 else s.c, if 3 < k then (s.d + x.d) % 4294967296 else s.d⟩
theorem four (k : Nat) (h : k < 4) : k = 0 ∨ k = 1 ∨ k = 2 ∨ k = 3 := by omega
theorem mixd_set (s x : S4) (rest : List Value) (k : Nat) (h : k < 4) : ((stC (mixd s x k) ++ rest).toArray).setIfInBounds k (.int .u32 ((s.g k + x.g k) % 4294967296 : Nat)) = (stC (mixd s x (k + 1)) ++ rest).toArray := by
  rcases four k h with rfl | rfl | rfl | rfl <;> simp [stC, mixd, S4.g]
theorem mixd_at (s x : S4) (rest : List Value) (k : Nat) (h : k < 4) : ((stC (mixd s x k) ++ rest).toArray)[k]? = some (.int .u32 (s.g k : Nat)) := by
  rcases four k h with rfl | rfl | rfl | rfl <;> simp [stC, mixd, S4.g]
theorem stC_at (s : S4) (k : Nat) (h : k < 4) : ((stC s).toArray)[k]? = some (.int .u32 (s.g k : Nat)) := by
  rcases four k h with rfl | rfl | rfl | rfl <;> simp [stC, S4.g]
theorem g_lt (s : S4) (h : s.ok) (k : Nat) : s.g k < 4294967296 := by
  obtain ⟨h1, h2, h3, h4⟩ := h
  unfold S4.g; split <;> (try split) <;> (try split) <;> assumption
theorem mixd_0 (s x : S4) : mixd s x 0 = s := rfl
theorem mixd_4 (s x : S4) : mixd s x 4 = addS s x := rfl

set_option maxRecDepth 100000 in
set_option maxHeartbeats 4000000 in
theorem take_any (R : Nat) (s : S4) (hs : s.ok) (rest : List Value) (T : TypeId) (ch : List UInt8) (A : Option Addr) (cap : Nat) (w : World) (hR : w.heap[R]? = some (.cells (stC s ++ rest).toArray T (0, 0))) (hA : Rd w A (bv ch)) (hl : ch.length = 64)
    (hne : ∀ o, A ≠ some ⟨R, o, none⟩) (ht : Tabs w) (hR2 : 2 ≤ R) :
    Calls Tryd.prog 22 #[.pointer (some ⟨R, 0, none⟩), .slice A 64 cap] w fun e w' =>
      e = .returned (.tuple #[]) ∧ w'.heap[R]? = some (.cells (stC (tk (wdF ch 0) s) ++ rest).toArray T (0, 0)) ∧ Fr (· = R) w w' := by
  have HA := Lib.hid hA
  have HR := Lib.hid hR
  have HT := Lib.hid ht
  have Hl := Lib.hid hl
  have HM0 : Hid (MAt (w.alloc (.cells #[.int .u32 0, .int .u32 0, .int .u32 0, .int .u32 0, .int .u32 0, .int .u32 0, .int .u32 0, .int .u32 0, .int .u32 0, .int .u32 0, .int .u32 0, .int .u32 0, .int .u32 0, .int .u32 0, .int .u32 0, .int .u32 0] 60)) w.heap.size (mW ch 0 0)) := by
    have h := heap_alloc_last w (.cells #[.int .u32 0, .int .u32 0, .int .u32 0, .int .u32 0, .int .u32 0, .int .u32 0, .int .u32 0, .int .u32 0, .int .u32 0, .int .u32 0, .int .u32 0, .int .u32 0, .int .u32 0, .int .u32 0, .int .u32 0, .int .u32 0] 60)
    refine ⟨fun t ht => ?_, fun t => free_blk h t⟩
    have e : mW ch 0 0 t = 0 := by unfold mW; rw [if_neg (by omega)]; split <;> rfl
    rw [cell_of_row _ _ t _ _ _ h, e]
    have : t = 0 ∨ t = 1 ∨ t = 2 ∨ t = 3 ∨ t = 4 ∨ t = 5 ∨ t = 6 ∨ t = 7 ∨ t = 8 ∨ t = 9 ∨ t = 10 ∨ t = 11 ∨ t = 12 ∨ t = 13 ∨ t = 14 ∨ t = 15 := by omega
    rcases this with rfl | rfl | rfl | rfl | rfl | rfl | rfl | rfl | rfl | rfl | rfl | rfl | rfl | rfl | rfl | rfl <;> rfl
  clear hA hR ht hl
  go_enter Tryd.func22, Tryd.ntmps22
  go_wp2_with fail
  go_loopw [5, 6, 13] (fun x5 x6 i wr => ∃ k : Nat, k ≤ 16 ∧ i = .int .i64 k ∧ Hid (MAt wr w.heap.size (mW ch k 0)) ∧ Hid (Below w.heap.size w wr)) (fun _ _ i _ => 16 - (intOf i).toNat)
  case atStart => exact ⟨0, by omega, rfl, HM0.out, by show Below _ _ _; repeat (first | exact Below.refl _ _ | assumption | refine below_drewN ?_ _ | refine Below.drew ?_ | refine Below.alloc ?_ (Nat.le_refl _) _ | refine bal ?_ _ | refine bnext ?_ (by assumption))⟩
  case round =>
    obtain ⟨k, hk, rfl, HM, Hb⟩ := hrel
    by_cases hkk : k < 16
    · have HM' : Hid (MAt wr w.heap.size (mW ch k 0)) := HM
      have Hb' := Hb
      have hk16 : (k : Int) < 16 := by omega
      go_wp2_with fail
      go_loopw [6] (fun i wr => ∃ j : Nat, j ≤ 4 ∧ i = .int .i64 (3 - (j : Int)) ∧ Hid (MAt wr w.heap.size (mW ch k j)) ∧ Hid (Below w.heap.size w wr)) (fun i _ => (intOf i + 1).toNat)
      case atStart => exact ⟨0, by omega, rfl, HM', Hb'⟩
      case round =>
        obtain ⟨j, hj, rfl, HMj, Hbj⟩ := hrel
        by_cases hjj : j < 4
        · obtain ⟨q, hq⟩ : ∃ q, q + j = 3 := ⟨3 - j, by omega⟩
          have hqI : (3 : Int) - (j : Int) = (q : Int) := by omega
          rw [hqI]
          have hq4 : (q : Int) < 4 := by omega
          have hq0 : (q : Int) ≥ 0 := by omega
          have hi0 : (0 : Int) ≤ 4 * (k : Int) + q := by omega
          have hi1 : 4 * (k : Int) + q < 64 := by omega
          have hin : (4 * (k : Int) + q).toNat = 4 * k + q := by omega
          have hch : 4 * k + q < ch.length := by have := Hl.out; omega
          obtain ⟨b1, o1, rfl, hx⟩ := (HA.out.below Hbj.out).at_ (j := 4 * k + q) (by rw [bv_length]; exact hch)
          have e1 := bv_get ch (4 * k + q) hch
          rw [List.getElem?_eq_getElem (by rw [bv_length]; exact hch)] at e1
          rw [Option.some.inj e1] at hx
          clear e1
          have hby : ch[4 * k + q].toNat = by1 ch (4 * k + (3 - j)) := by
            unfold by1
            rw [show 4 * k + (3 - j) = 4 * k + q from by omega]
            simp only [List.getD_eq_getElem?_getD, List.getElem?_eq_getElem hch, Option.getD_some]
          rw [hby] at hx
          have Hnx : Hid (pw ch (4 * k) (j + 1) = pw ch (4 * k) j * 256 + by1 ch (4 * k + (3 - j))) := rfl
          have hmk := HMj.out.1 k (by omega)
          have hfz := HMj.out.2 k
          have e0 : mW ch k j k = pw ch (4 * k) j := by unfold mW; simp
          rw [e0] at hmk
          have hp := pw_lt ch (4 * k) j
          have hp24 : pw ch (4 * k) j < 16777216 := Nat.lt_of_lt_of_le hp (show 256 ^ j ≤ 256 ^ 3 from Nat.pow_le_pow_right (by omega) (by omega))
          have hb8 := by1_lt ch (4 * k + (3 - j))
          clear e0 hby hp
          generalize by1 ch (4 * k + (3 - j)) = b at *
          have HPd : Hid (pw ch (4 * k) j = pw ch (4 * k) j) := rfl
          generalize hP : pw ch (4 * k) j = P at *
          have e2 := u32_or (P * 256) b (by omega) (by omega)
          rw [or_add P b hb8, Int.natCast_mul, Int.cast_ofNat_Int] at e2
          have e3 : IntKind.u32.wrap ((P : Int) * 256) = (P : Int) * 256 := by have := u32_wrap_lt (P * 256) (by omega); rwa [Int.natCast_mul, Int.cast_ofNat_Int] at this
          have e4 : IntKind.u32.wrap (b : Int) = (b : Int) := u32_wrap_lt b (by omega)
          have hw4 : IntKind.i64.wrap (4 * (k : Int)) = 4 * (k : Int) := by rw [IntKind.wrap_i64]; omega
          have hw5 : IntKind.i64.wrap (4 * (k : Int) + q) = 4 * (k : Int) + q := by rw [IntKind.wrap_i64]; omega
          have hk0 : (0 : Int) ≤ (k : Int) := by omega
          go_wp2_with fail
          refine wp_region_still_tail 15 (by kernel_rfl) (by kernel_rfl) ?_
          simp only [List.take_succ_cons, List.take_zero, List.drop_succ_cons, List.drop_zero]
          repeat still_step
          refine wpStill_nil ?_
          change wpList _ _ _ _ _ wr.drew
          have hmkd : wr.drew.cell? ⟨w.heap.size, k, none⟩ = some (.int .u32 (P : Nat)) := hmk
          have hfzd : wr.drew.frozen? ⟨w.heap.size, k, none⟩ = false := hfz
          go_wp2_with fail
          go_roundw
          case rel =>
            refine ⟨j + 1, by omega, by congr 1; omega, ?_, ?_⟩
            · have h := (HMj.out.set (i := k) (v := P * 256 + b) (g := mW ch k (j + 1)) (by omega) (fun t _ => by rw [mW_next, Hnx.out]))
              simp only [Int.natCast_add, Int.natCast_mul, Int.cast_ofNat_Int] at h
              exact h
            · exact Below.drew (Hbj.out.setCell (p := ⟨w.heap.size, k, none⟩) (Nat.le_refl _) _)
          case measure => simp [intOf] <;> omega
        · obtain rfl : j = 4 := by omega
          go_wp2_with fail
          go_roundw
          case rel => exact ⟨k + 1, by omega, by go_num, HMj.out.congr (fun t _ => mW_word ch k t), Hbj.out⟩
          case measure => simp [intOf] <;> omega
    · obtain rfl : k = 16 := by omega
      rw [show ((16 : Nat) : Int) = 16 from rfl]
      have hRr := hrow_below HR.out Hb.out
      have hRl : R < w.heap.size := (Array.getElem?_eq_some_iff.1 HR.out).1
      have hc0 : wr.cell? ⟨R, 0, none⟩ = some (.int .u32 (s.a : Nat)) := by rw [cell_of_row _ _ 0 _ _ _ hRr]; simp [stC]
      have hc1 : wr.cell? ⟨R, 1, none⟩ = some (.int .u32 (s.b : Nat)) := by rw [cell_of_row _ _ 1 _ _ _ hRr]; simp [stC]
      have hc2 : wr.cell? ⟨R, 2, none⟩ = some (.int .u32 (s.c : Nat)) := by rw [cell_of_row _ _ 2 _ _ _ hRr]; simp [stC]
      have hc3 : wr.cell? ⟨R, 3, none⟩ = some (.int .u32 (s.d : Nat)) := by rw [cell_of_row _ _ 3 _ _ _ hRr]; simp [stC]
      have HM2 := Lib.hid (HM.out.below (bal (Below.refl _ wr) (.cells #[.int .u32 (s.a : Nat), .int .u32 (s.b : Nat), .int .u32 (s.c : Nat), .int .u32 (s.d : Nat)] 53)))
      have HM2' := Lib.hid (HM2.out.congr (g := wdF ch 0) (fun t ht => by unfold mW; rw [if_pos ht]))
      have Hb2 := Lib.hid (bal Hb.out (.cells #[.int .u32 (s.a : Nat), .int .u32 (s.b : Nat), .int .u32 (s.c : Nat), .int .u32 (s.d : Nat)] 53))
      have HX2 := Lib.hid (heap_alloc_last wr (.cells #[.int .u32 (s.a : Nat), .int .u32 (s.b : Nat), .int .u32 (s.c : Nat), .int .u32 (s.d : Nat)] 53))
      have HMX : Hid (w.heap.size < wr.heap.size) := cell_lt (HM.out.1 0 (by omega))
      have HRl := Lib.hid hRl
      have HTX := Lib.hid HT.out.two
      go_upto_region 10 with fail
      generalize wr.alloc (.cells #[.int .u32 (s.a : Nat), .int .u32 (s.b : Nat), .int .u32 (s.c : Nat), .int .u32 (s.d : Nat)] 53) = w2 at *
      obtain ⟨X, hX⟩ : ∃ X, wr.heap.size = X := ⟨_, rfl⟩
      rw [hX] at HX2 HMX ⊢
      obtain ⟨M, hM⟩ : ∃ M, w.heap.size = M := ⟨_, rfl⟩
      have HMe := Lib.hid hM
      rw [hM] at HMX HM2' HTX
      clear hX hM hc0 hc1 hc2 hc3 hRr hRl HM2 HM Hb hk hkk HM0
      have HX2 : Hid (w2.heap[X]? = some (.cells (stC (rnds (wdF ch 0) s 0)).toArray 53 (0, 0))) := HX2
      have Hok := Lib.hid (rnds_ok (wdF ch 0) s hs)
      have Hmlt := Lib.hid (wdF_lt ch 0)
      have Hnx : Hid (∀ k, rnds (wdF ch 0) s (k + 1) = rnd (wdF ch 0) (rnds (wdF ch 0) s k) k) := fun k => rfl
      go_wp2_with fail
      rw [HMe.out]
      go_loopw [8, 9, 10, 11, 39] (fun x8 x9 x10 x11 i wr => ∃ k : Nat, k ≤ 64 ∧ i = .int .i64 k ∧ Hid (wr.heap[X]? = some (.cells (stC (rnds (wdF ch 0) s k)).toArray 53 (0, 0))) ∧ Hid (MAt wr M (wdF ch 0)) ∧ Hid (Below w.heap.size w wr)) (fun _ _ _ _ i _ => 64 - (intOf i).toNat)
      case atStart => exact ⟨0, by omega, rfl, HX2.out, HM2'.out, Hb2.out⟩
      case round =>
        clear HX2 HM2' Hb2
        obtain ⟨k, hk, rfl, HXk, HMk, Hbk⟩ := hrel
        by_cases hkk : k < 64
        · have hk64 : (k : Int) < 64 := by omega
          have hok := Hok.out k
          have Hn := Lib.hid (Hnx.out k)
          generalize rnds (wdF ch 0) s k = st at *
          obtain ⟨a, b, c, d⟩ := st
          obtain ⟨ha, hb, hc, hd⟩ := hok
          simp only at ha hb hc hd
          have hx0 : wr.cell? ⟨X, 0, none⟩ = some (.int .u32 (a : Nat)) := by rw [cell_of_row _ _ 0 _ _ _ HXk.out]; simp [stC]
          have hx1 : wr.cell? ⟨X, 1, none⟩ = some (.int .u32 (b : Nat)) := by rw [cell_of_row _ _ 1 _ _ _ HXk.out]; simp [stC]
          have hx2 : wr.cell? ⟨X, 2, none⟩ = some (.int .u32 (c : Nat)) := by rw [cell_of_row _ _ 2 _ _ _ HXk.out]; simp [stC]
          have hx3 : wr.cell? ⟨X, 3, none⟩ = some (.int .u32 (d : Nat)) := by rw [cell_of_row _ _ 3 _ _ _ HXk.out]; simp [stC]
          have Hmix := Lib.hid (fun W => mix_any k b c d hkk hb hc hd W)
          have hTk := HT.out.below Hbk.out
          have hs0 := hTk.1 k hkk
          have ht0 := hTk.2 (k / 16 * 4 + k % 4) (by omega)
          have hm0 := HMk.out.1 (mixG k % 16) (by omega)
          have hsn := sn_lt k hkk
          have htn := tn_le k hkk
          have hml := Hmlt.out (mixG k % 16)
          have hfl := mixF_lt k b c d hb hc hd
          have hgl := mixG_lt k hkk
          have hF : Hid (fF (wdF ch 0) ⟨a, b, c, d⟩ k = (mixF k b c d + ((a + sn k) % 4294967296 + wdF ch 0 (mixG k % 16)) % 4294967296) % 4294967296) := rfl
          have hF2 := Hn.out
          unfold rnd at hF2
          rw [hF.out] at hF2
          rw [show turnsL.getD (k / 16 * 4 + k % 4) 0 = tn k from rfl] at ht0
          have HF2 := Lib.hid hF2
          clear hF2 hF Hn hTk
          generalize wdF ch 0 (mixG k % 16) = mv at *
          generalize mixF k b c d = fx at *
          generalize mixG k = gx at *
          generalize sn k = n at *
          generalize tn k = tt at *
          obtain ⟨g1, hg1⟩ : ∃ g1, (a + n) % 4294967296 = g1 := ⟨_, rfl⟩
          have e1 : IntKind.u32.wrap ((a : Int) + (n : Int)) = (g1 : Int) := by rw [← hg1]; have := u32_wrap (a + n); rwa [Int.natCast_add] at this
          rw [hg1] at HF2
          obtain ⟨g2, hg2⟩ : ∃ g2, (g1 + mv) % 4294967296 = g2 := ⟨_, rfl⟩
          have e2 : IntKind.u32.wrap ((g1 : Int) + (mv : Int)) = (g2 : Int) := by rw [← hg2]; have := u32_wrap (g1 + mv); rwa [Int.natCast_add] at this
          rw [hg2] at HF2
          obtain ⟨g3, hg3⟩ : ∃ g3, (fx + g2) % 4294967296 = g3 := ⟨_, rfl⟩
          have e3 : IntKind.u32.wrap ((fx : Int) + (g2 : Int)) = (g3 : Int) := by rw [← hg3]; have := u32_wrap (fx + g2); rwa [Int.natCast_add] at this
          rw [hg3] at HF2
          have hg3l : g3 < 4294967296 := by omega
          clear hg1 hg2 hg3
          have hgm0 : (0 : Int) ≤ (gx : Int) % 16 := by omega
          have hgm1 : (gx : Int) % 16 < 16 := by omega
          have hgmn : ((gx : Int) % 16).toNat = gx % 16 := by omega
          go_wp2_with (go_at_call 25; refine (Hmix.out _).mono ?_; rintro e w1 ⟨rfl, rfl⟩)
          go_quiet (fail)
          have hbq : Below w1.heap.size w1 (w1.drewN nq) := below_drewN (Below.refl _ _) nq
          have HXq := Lib.hid (hrow_below HXk.out hbq)
          have HMq := Lib.hid (HMk.out.below hbq)
          have Hbq := Lib.hid (bnext Hbk.out hbq)
          have ht1 := (hbq.cell (p := ⟨1, k / 16 * 4 + k % 4, none⟩) (cell_lt ht0)).trans ht0
          clear hbq HXk HMk Hbk hx0 hx1 hx2 hx3 hs0 ht0 hm0 Hmix e1 e2 e3
          generalize w1.drewN nq = wq at *
          have hx1 : wq.cell? ⟨X, 1, none⟩ = some (.int .u32 (b : Nat)) := by rw [cell_of_row _ _ 1 _ _ _ HXq.out]; simp [stC]
          have hx2 : wq.cell? ⟨X, 2, none⟩ = some (.int .u32 (c : Nat)) := by rw [cell_of_row _ _ 2 _ _ _ HXq.out]; simp [stC]
          have hx3 : wq.cell? ⟨X, 3, none⟩ = some (.int .u32 (d : Nat)) := by rw [cell_of_row _ _ 3 _ _ _ HXq.out]; simp [stC]
          have hq0 : (0 : Int) ≤ (k : Int) / 16 := by omega
          have hq1 : (k : Int) / 16 < 4 := by omega
          have hqn : ((k : Int) / 16).toNat = k / 16 := by omega
          have hr0 : (0 : Int) ≤ (k : Int) % 4 := by omega
          have hr1 : (k : Int) % 4 < 4 := by omega
          have hrn : ((k : Int) % 4).toNat = k % 4 := by omega
          obtain ⟨s1, hs1⟩ : ∃ s1, g3 * 2 ^ tt % 4294967296 = s1 := ⟨_, rfl⟩
          have e4 : IntKind.u32.wrap ((g3 : Int) * 2 ^ tt) = (s1 : Int) := by rw [← hs1]; have := u32_wrap (g3 * 2 ^ tt); rwa [Int.natCast_mul, Int.natCast_pow, Int.cast_ofNat_Int] at this
          obtain ⟨s2, hs2⟩ : ∃ s2, g3 / 2 ^ (32 - tt) = s2 := ⟨_, rfl⟩
          have e5 : (g3 : Int) / 2 ^ (32 - tt) = (s2 : Int) := by rw [← hs2]; simp
          have hs1l : s1 < 4294967296 := by rw [← hs1]; exact Nat.mod_lt _ (by decide)
          have hs2l : s2 < 4294967296 := by rw [← hs2]; exact Nat.lt_of_le_of_lt (Nat.div_le_self _ _) hg3l
          have e6 := u32_or s1 s2 hs1l hs2l
          have hrl : rl g3 tt = s1 ||| s2 := by unfold rl; rw [hs1, hs2]
          have HF3 := HF2.out
          rw [hrl] at HF3
          clear hs1 hs2 hrl HF2
          generalize s1 ||| s2 = r at *
          obtain ⟨v, hv⟩ : ∃ v, (b + r) % 4294967296 = v := ⟨_, rfl⟩
          have e7 : IntKind.u32.wrap ((b : Int) + (r : Int)) = (v : Int) := by rw [← hv]; have := u32_wrap (b + r); rwa [Int.natCast_add] at this
          rw [hv] at HF3
          have HF3 := Lib.hid HF3
          clear hv
          have ht64 : min tt 64 = tt := by omega
          have ht64' : min (32 - tt) 64 = 32 - tt := by omega
          have ht32 : min tt 32 = tt := by omega
          have ht32' : min (32 - tt) 32 = 32 - tt := by omega
          have htw : IntKind.i64.wrap (32 - (tt : Int)) = 32 - (tt : Int) := by rw [IntKind.wrap_i64]; omega
          have ht0 : (0 : Int) ≤ 32 - (tt : Int) := by omega
          have htI : (0 : Int) ≤ (tt : Int) := by omega
          have htn2 : ((32 : Int) - (tt : Int)).toNat = 32 - tt := by omega
          have hx0 : wq.cell? ⟨X, 0, none⟩ = some (.int .u32 (a : Nat)) := by rw [cell_of_row _ _ 0 _ _ _ HXq.out]; simp [stC]
          have hfx := free_blk HXq.out
          go_wp2_with fail
          refine wp_region_still_tail 18 (by kernel_rfl) (by kernel_rfl) ?_
          simp only [List.take_succ_cons, List.take_zero, List.drop_succ_cons, List.drop_zero]
          repeat still_step
          refine wpStill_nil ?_
          change wpList _ _ _ _ _ wq.drew
          have HXd : Hid (wq.drew.heap[X]? = some (.cells (stC ⟨a, b, c, d⟩).toArray 53 (0, 0))) := HXq.out
          refine wpList_store_row (c := (stC ⟨a, b, c, d⟩).toArray) (c' := (stC ⟨d, v, b, c⟩).toArray) (t := 53) rfl 53 _ _ rfl X rfl rfl HXd.out (by kernel_rfl) rfl (by simp [stC, Value.oneCell']) ?_
          have HXs := Lib.hid (setRow_heap wq.drew X _ (stC ⟨d, v, b, c⟩).toArray _ _ HXd.out)
          have HMs := Lib.hid (HMq.out.block (w' := wq.drew.setRow X (stC ⟨d, v, b, c⟩).toArray) (setRow_other wq.drew X M _ (by have := HMX.out; omega)))
          have Hbs := Lib.hid (Below.setRow (Hbq.out.drew) (by have := HMX.out; have := HMe.out; omega : w.heap.size ≤ X) (stC ⟨d, v, b, c⟩).toArray)
          generalize wq.drew.setRow X (stC ⟨d, v, b, c⟩).toArray = ws at *
          go_wp2_with fail
          go_roundw
          case rel => exact ⟨k + 1, by omega, by go_num, by rw [HF3.out]; exact HXs.out, HMs.out, Hbs.out⟩
          case measure => simp [intOf] <;> omega
        · obtain rfl : k = 64 := by omega
          rw [show ((64 : Nat) : Int) = 64 from rfl]
          have hRr := hrow_below HR.out Hbk.out
          have hokx := Hok.out 64
          have Hd : Hid (tk (wdF ch 0) s = addS s (rnds (wdF ch 0) s 64)) := rfl
          generalize rnds (wdF ch 0) s 64 = x at *
          clear Hmlt Hnx Hok HMk
          obtain ⟨wo, rfl⟩ : ∃ wo : World, wo = wr := ⟨_, rfl⟩
          have HR0 : Hid (wo.heap[R]? = some (.cells (stC (mixd s x 0) ++ rest).toArray T (0, 0))) := hRr
          have HRX : Hid (R ≠ X) := by show _ ≠ _; have := HRl.out; have := HMe.out; have := HMX.out; omega
          clear hRr
          go_wp2_with fail
          go_loopw [12, 92] (fun x12 i wr => ∃ k : Nat, k ≤ 4 ∧ i = .int .i64 k ∧ Hid (wr.heap[R]? = some (.cells (stC (mixd s x k) ++ rest).toArray T (0, 0))) ∧ Hid (wr.heap[X]? = some (.cells (stC x).toArray 53 (0, 0))) ∧ Hid (Fr (· = R) wo wr)) (fun _ i _ => 4 - (intOf i).toNat)
          case atStart => exact ⟨0, by omega, rfl, HR0.out, HXk.out, Fr.refl _ _⟩
          case round =>
            obtain ⟨k, hk, rfl, HRk, HX, HF⟩ := hrel
            by_cases hkk : k < 4
            · have hk4 : (k : Int) < 4 := by omega
              have hk0 : (0 : Int) ≤ (k : Int) := by omega
              have hr0 : wr.cell? ⟨R, k, none⟩ = some (.int .u32 (s.g k : Nat)) := by rw [cell_of_row _ _ k _ _ _ HRk.out]; exact mixd_at s x rest k hkk
              have hx0 : wr.cell? ⟨X, k, none⟩ = some (.int .u32 (x.g k : Nat)) := by rw [cell_of_row _ _ k _ _ _ HX.out]; exact stC_at x k hkk
              have Hset := Lib.hid (mixd_set s x rest k hkk)
              have hsl := g_lt s hs k
              have hxl := g_lt x hokx k
              have hfr := free_blk HRk.out k
              generalize s.g k = p at *
              generalize x.g k = q at *
              obtain ⟨v, hv⟩ : ∃ v, (p + q) % 4294967296 = v := ⟨_, rfl⟩
              have e7 : IntKind.u32.wrap ((p : Int) + (q : Int)) = (v : Int) := by rw [← hv]; have := u32_wrap (p + q); rwa [Int.natCast_add] at this
              rw [hv] at Hset
              clear hv
              go_wp2_with fail
              refine wp_region_still_tail 11 (by kernel_rfl) (by kernel_rfl) ?_
              simp only [List.take_succ_cons, List.take_zero, List.drop_succ_cons, List.drop_zero]
              repeat still_step
              refine wpStill_nil ?_
              change wpList _ _ _ _ _ wr.drew
              have hrd : wr.drew.cell? ⟨R, k, none⟩ = some (.int .u32 (p : Nat)) := hr0
              have hfrd : wr.drew.frozen? ⟨R, k, none⟩ = false := hfr
              go_wp2_with fail
              go_roundw
              case rel => exact ⟨k + 1, by omega, by go_num, hrow_set HRk.out Hset.out, (heap_setCell_other wr _ _ _ (fun e => HRX.out e.symm)).trans HX.out, (HF.out.put k _).drew⟩
              case measure => simp [intOf] <;> omega
            · obtain rfl : k = 4 := by omega
              go_wp2_with fail
              go_end0
              refine ⟨rfl, ?_, ?_⟩
              · rw [Hd.out, ← mixd_4]; exact HRk.out
              · exact (Fr.of (HMe.out ▸ Hbk.out)).trans HF.out
end Go.Proofs.YtibhhebfenkeaaaDoor
