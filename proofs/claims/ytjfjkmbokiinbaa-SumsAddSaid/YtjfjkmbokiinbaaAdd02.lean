/-
  jetsamlaw02.SumsAdd: its walk. (Printed by wip/gen/add02.py.)
-/
import Derived.Test.YtjfjkmbokiinbaaAwake02
import Derived.Test.YtjfjkmbokiinbaaSums3
import Derived.Test.YtjfjkmbokiinbaaL2
import Derived.Test.YtjfjkmbokiinbaaSee
import Derived.Test.YtjfjkmbokiinbaaMono
namespace Go.Proofs.Ytjfjkmbokiinbaa
open Go.RowKit

theorem info_u8 : (Try.prog.info? 5).map (fun i => (i.zero, i.size, i.bytes)) = some (some (.int .u8 0), 1, 1) := by kernel_rfl

/-- Two texts, bit by bit added. -/
def xorL (l m : List UInt8) : List UInt8 := List.zipWith (· ^^^ ·) l m
theorem xorL_length (l m : List UInt8) : (xorL l m).length = min l.length m.length := by simp [xorL]
theorem crcgen_xor {W M P p : Nat} (h : Crc.Pm W M P p) : ∀ (l m : List UInt8) (s t : Nat), s < M → t < M → l.length = m.length →
    Crc.crc M P (2 ^ (W - 8)) (s ^^^ t) (xorL l m) = Crc.crc M P (2 ^ (W - 8)) s l ^^^ Crc.crc M P (2 ^ (W - 8)) t m
  | [], [], s, t, _, _, _ => rfl
  | x :: l, y :: m, s, t, hs, ht, hl => by
    have hx : x.toNat < 256 := by have := x.toNat_lt; omega
    have hy : y.toNat < 256 := by have := y.toNat_lt; omega
    have hxy : x.toNat ^^^ y.toNat < 256 := Nat.xor_lt_two_pow (n := 8) hx hy
    have hb : ∀ z, z < 256 → z * 2 ^ (W - 8) < M := fun z hz => by rw [h.K]; exact Nat.mul_lt_mul_of_pos_right hz (Nat.two_pow_pos _)
    have e : Crc.nxt M P (2 ^ (W - 8)) (s ^^^ t) (x ^^^ y).toNat = Crc.nxt M P (2 ^ (W - 8)) s x.toNat ^^^ Crc.nxt M P (2 ^ (W - 8)) t y.toNat := by
      rw [UInt8.toNat_xor, h.nxt_eq _ _ (h.xor_lt hs ht) hxy, h.nxt_eq s _ hs hx, h.nxt_eq t _ ht hy, ← h.it_xor 8 _ _ (h.xor_lt hs (hb _ hx)) (h.xor_lt ht (hb _ hy)), Crc.mul_pow_xor]
      congr 1
      rw [Nat.xor_assoc, Nat.xor_assoc]
      congr 1
      rw [← Nat.xor_assoc, ← Nat.xor_assoc, Nat.xor_comm t]
    show Crc.crc M P _ (Crc.nxt M P _ (s ^^^ t) (x ^^^ y).toNat) (xorL l m) = _
    rw [e]
    exact crcgen_xor h l m _ _ (h.nxt_lt s _ hs hx) (h.nxt_lt t _ ht hy) (by simpa using hl)
  | [], _ :: _, _, _, _, _, hl => by simp at hl
  | _ :: _, [], _, _, _, _, hl => by simp at hl
theorem xorL_take (l m : List UInt8) (n : Nat) : xorL (l.take n) (m.take n) = (xorL l m).take n := by simp [xorL, List.take_zipWith]
theorem add8 (l m : List UInt8) (n : Nat) (h1 : n ≤ l.length) (h2 : n ≤ m.length) : crc8 0 ((xorL l m).take n) = crc8 0 (l.take n) ^^^ crc8 0 (m.take n) := by
  rw [← xorL_take, crc8_eq, crc8_eq, crc8_eq, ← crcgen_xor Crc.p8 _ _ 0 0 (by decide) (by decide) (by simp; omega)]
  rfl
theorem add16 (l m : List UInt8) (n : Nat) (h1 : n ≤ l.length) (h2 : n ≤ m.length) : crc16 0 ((xorL l m).take n) = crc16 0 (l.take n) ^^^ crc16 0 (m.take n) := by
  rw [← xorL_take, crc16_eq, crc16_eq, crc16_eq, ← crcgen_xor Crc.p16 _ _ 0 0 (by decide) (by decide) (by simp; omega)]
  rfl

set_option maxRecDepth 100000 in
set_option maxHeartbeats 4000000 in
theorem add_walk_a (l : List UInt8) (A : Option Addr) (c : Nat) (m : List UInt8) (B : Option Addr) (d : Nat) (p q : Int) (w : World) (hl : Rd w A (bv l)) (hc : l.length ≤ c) (hm : Rd w B (bv m)) (hd : m.length ≤ d) (hmin : m.length < l.length) :
    Calls Try.prog 5 #[.slice A l.length c, .slice B m.length d, .agg #[.int .i64 p, .int .i64 q]] w fun e w' => e = .returned (.bool true) ∧ Below w.heap.size w w' := by
  have hn1 : (m.length) ≤ l.length := by omega
  have hn2 : (m.length) ≤ m.length := by omega
  by_cases h4 : (400 : Int) < ((m.length : Nat) : Int)
  · go_enter Try.func5, Try.ntmps5
    go_wp2_with fail
    (refine (awake_any _).mono ?_; rintro e w9 ⟨rfl, hb9⟩; go_wp2_with fail; go_ret; exact ⟨rfl, by repeat (first | exact Below.refl _ _ | assumption | refine below_drewN ?_ _ | refine Below.drew ?_ | refine Below.alloc ?_ (Nat.le_refl _) _ | refine bal ?_ _ | refine bnext ?_ (by assumption))⟩)
  have HRl := Lib.hid hl
  have HRm := Lib.hid hm
  clear hl hm
  go_enter Try.func5, Try.ntmps5
  go_wp2_with fail
  obtain ⟨w0, hw0, hb0, hp0, hp1, hs0⟩ : ∃ w0, w.alloc (.cells #[.int .i64 p, .int .i64 q] 28) = w0 ∧ Below w.heap.size w w0 ∧ w0.cell? ⟨w.heap.size, 0, none⟩ = some (.int .i64 p) ∧ w0.cell? ⟨w.heap.size, 1, none⟩ = some (.int .i64 q) ∧ w.heap.size < w0.heap.size :=
    ⟨_, rfl, by repeat (first | exact Below.refl _ _ | assumption | refine below_drewN ?_ _ | refine Below.drew ?_ | refine Below.alloc ?_ (Nat.le_refl _) _ | refine bal ?_ _ | refine bnext ?_ (by assumption)), by go_simp, by go_simp, by simp⟩
  rw [hw0]
  clear hw0
  go_loopw [8, 9] (fun v i wr => ∃ k : Nat, k ≤ (m.length) ∧ i = .int .i64 k ∧ Hid (wr.ownsRow w0.heap.size 5 1 v k (bv ((xorL l m).take k))) ∧ Below w0.heap.size w0 wr) (fun _ i _ => (m.length) - (intOf i).toNat)
  case atStart => exact ⟨0, by omega, rfl, World.ownsRow_nil w0 w0.heap.size _ 1, Below.refl _ _⟩
  case round =>
    obtain ⟨k, hk, rfl, Hown, hb⟩ := hrel
    by_cases hkk : k < (m.length)
    · obtain ⟨b1, o1, rfl, hcA⟩ := HRl.out.at_ (j := k) (by rw [bv_length]; omega)
      obtain ⟨b2, o2, rfl, hcB⟩ := HRm.out.at_ (j := k) (by rw [bv_length]; omega)
      have hkl : k < l.length := by omega
      have hkm : k < m.length := by omega
      have ea := bv_get l k hkl
      have eb := bv_get m k hkm
      rw [List.getElem?_eq_getElem (by rw [bv_length]; omega)] at ea eb
      rw [Option.some.inj ea] at hcA
      rw [Option.some.inj eb] at hcB
      clear ea eb
      have hb' : Below w.heap.size w wr := hb0.trans (hb.mono hb0.size)
      have hltA := cell_lt hcA
      have hltB := cell_lt hcB
      have HQ1 : Hid (∀ W, Below w0.heap.size w0 W → W.cell? ⟨b1, o1 + k, none⟩ = some (.int .u8 (l[k].toNat : Int))) := fun W hW => (hW.cell (p := ⟨b1, o1 + k, none⟩) (by show b1 < _; omega)).trans ((hb0.cell (p := ⟨b1, o1 + k, none⟩) hltA).trans hcA)
      have HQ2 : Hid (∀ W, Below w0.heap.size w0 W → W.cell? ⟨b2, o2 + k, none⟩ = some (.int .u8 (m[k].toNat : Int))) := fun W hW => (hW.cell (p := ⟨b2, o2 + k, none⟩) (by show b2 < _; omega)).trans ((hb0.cell (p := ⟨b2, o2 + k, none⟩) hltB).trans hcB)
      clear hcA hcB hltA hltB hb'
      have Ht : Hid (bv ((xorL l m).take (k + 1)) = bv ((xorL l m).take k) ++ [.int .u8 ((l[k].toNat ^^^ m[k].toNat : Nat) : Int)]) := by
        show _ = _
        have hx : k < (xorL l m).length := by rw [xorL_length]; omega
        rw [List.take_succ_eq_append_getElem hx, bv_append]
        simp [bv, xorL, UInt8.toNat_xor]
      have hx1 := l[k].toNat_lt
      have hx2 := m[k].toNat_lt
      generalize l[k].toNat = x at *
      generalize m[k].toNat = y at *
      have E := Lib.hid (u8_xor_nat x y (by omega) (by omega))
      clear HRl HRm
      have hiA : (0 : Int) ≤ (k : Int) := by omega
      have hiB : (k : Int) < l.length := by omega
      have hiC : (k : Int) < m.length := by omega
      go_wp2_with fail
      go_region_held3 (fun w' => w'.cell? ⟨b1, o1 + k, none⟩ = some (.int .u8 x) ∧ w'.cell? ⟨b2, o2 + k, none⟩ = some (.int .u8 y) ∧ Below w0.heap.size w0 w')
        (refine ⟨HQ1.out _ ?_, HQ2.out _ ?_, ?_⟩ <;> (repeat (first | exact Below.refl _ _ | assumption | refine below_drewN ?_ _ | refine Below.drew ?_ | refine Below.alloc ?_ (Nat.le_refl _) _ | refine bal ?_ _ | refine bnext ?_ (by assumption))))
        ((refine step_app1 (w0 := w0) rfl _ _ 22 rfl Try.underlying22 info_u8 rfl (by decide) rfl ((Hown.out.alloc _).drew) (Nat.le_refl _) (bal hb _).size (by repeat (first | exact Below.refl _ _ | assumption | refine below_drewN ?_ _ | refine Below.drew ?_ | refine Below.alloc ?_ (Nat.le_refl _) _ | refine bal ?_ _ | refine bnext ?_ (by assumption))) rfl (heap_alloc_new wr _) rfl (one_u8 _) (by omega) (by unfold maxLen; omega) ?_; intro v1 w1 own1 hb1 hs1))
      go_wp2_with fail
      go_roundw
      case rel =>
        refine ⟨k + 1, by omega, by go_num, ?_, hb1⟩
        rw [Ht.out, ← E.out]
        exact own1
      case measure => simp [intOf] <;> omega
    · obtain rfl : k = (m.length) := by omega
      obtain ⟨A3, c3, rfl, hc3, hr3⟩ := own_rd Hown.out
      have hxl : ((xorL l m).take (m.length)).length = (m.length) := by rw [List.length_take, xorL_length]; omega
      have hb' : Below w.heap.size w wr := hb0.trans (hb.mono hb0.size)
      have HC : Hid (BS wr (.slice A3 (m.length) c3) ((xorL l m).take (m.length))) := by
        have := BS.of hr3 (c := c3) (by omega)
        rw [hxl] at this
        exact this
      have HAn : Hid (BS wr (.slice A (m.length) c) (l.take (m.length))) := (BS.take HRl.out hc hn1).below hb'
      have HBn : Hid (BS wr (.slice B (m.length) d) (m.take (m.length))) := (BS.take HRm.out hd hn2).below hb'
      have HLx : Hid (∀ x ∈ [(xorL l m).take (m.length)], x.length < 4611686018427387904) := by intro x hx; simp only [List.mem_singleton] at hx; subst hx; omega
      have HLl : Hid (∀ x ∈ [l.take (m.length)], x.length < 4611686018427387904) := by intro x hx; simp only [List.mem_singleton] at hx; subst hx; rw [List.length_take]; omega
      have HLm : Hid (∀ x ∈ [m.take (m.length)], x.length < 4611686018427387904) := by intro x hx; simp only [List.mem_singleton] at hx; subst hx; rw [List.length_take]; omega
      obtain ⟨X8, hX8⟩ : ∃ X, crc8 0 ((xorL l m).take (m.length)) = X := ⟨_, rfl⟩
      obtain ⟨Y8, hY8⟩ : ∃ X, crc8 0 (l.take (m.length)) = X := ⟨_, rfl⟩
      obtain ⟨Z8, hZ8⟩ : ∃ X, crc8 0 (m.take (m.length)) = X := ⟨_, rfl⟩
      obtain ⟨X16, hX16⟩ : ∃ X, crc16 0 ((xorL l m).take (m.length)) = X := ⟨_, rfl⟩
      obtain ⟨Y16, hY16⟩ : ∃ X, crc16 0 (l.take (m.length)) = X := ⟨_, rfl⟩
      obtain ⟨Z16, hZ16⟩ : ∃ X, crc16 0 (m.take (m.length)) = X := ⟨_, rfl⟩
      have E8 : bits .xor .i64 (Y8 : Int) (Z8 : Int) = (X8 : Int) := by
        have h1 : Y8 < 256 := by rw [← hY8]; exact crc8_lt 0 (by omega) _
        have h2 : Z8 < 256 := by rw [← hZ8]; exact crc8_lt 0 (by omega) _
        rw [i64_xor_nat _ _ (by omega) (by omega), ← hX8, add8 _ _ _ hn1 hn2, hY8, hZ8]
      have Hs16 : Hid (X16 < 65536) := by show _ < _; rw [← hX16]; exact crc16_lt 0 (by decide) _
      have E16 : bits .xor .i64 (Y16 : Int) (Z16 : Int) = (X16 : Int) := by
        have h1 : Y16 < 65536 := by rw [← hY16]; exact crc16_lt 0 (by decide) _
        have h2 : Z16 < 65536 := by rw [← hZ16]; exact crc16_lt 0 (by decide) _
        rw [i64_xor_nat _ _ (by omega) (by omega), ← hX16, add16 _ _ _ hn1 hn2, hY16, hZ16]
      have HX8 := Lib.hid hX8
      have HY8 := Lib.hid hY8
      have HZ8 := Lib.hid hZ8
      have HX16 := Lib.hid hX16
      have HY16 := Lib.hid hY16
      have HZ16 := Lib.hid hZ16
      have Hown3 : Hid (BS wr (.slice A3 (m.length) c3) ((xorL l m).take (m.length))) := HC.out
      clear hX8 hY8 hZ8 hX16 hY16 hZ16 hxl hr3 HRl HRm Hown hkk hk
      have hi0 : (0 : Int) ≤ ((m.length : Nat) : Int) := by omega
      have hi1 : ((m.length : Nat) : Int) ≤ c := by omega
      have hi2 : ((m.length : Nat) : Int) ≤ d := by omega
      have hi3 : ((m.length : Nat) : Int) ≤ l.length := by omega
      have hi4 : ((m.length : Nat) : Int) ≤ m.length := by omega
      go_wp2_with fail
      refine wp_region_specs [
        Spec.val (.slice A3 (m.length) c3),
        Spec.row #[.slice A3 (m.length) c3] 22 1,
        Spec.val (.int .i64 (X8 : Nat)),
        Spec.val (.slice A l.length c),
        Spec.val (.int .i64 (m.length : Nat)),
        Spec.val (.slice A (m.length) c),
        Spec.row #[.slice A (m.length) c] 22 1,
        Spec.val (.int .i64 (Y8 : Nat)),
        Spec.val (.slice B m.length d),
        Spec.val (.int .i64 (m.length : Nat)),
        Spec.val (.slice B (m.length) d),
        Spec.row #[.slice B (m.length) d] 22 1,
        Spec.val (.int .i64 (Z8 : Nat)),
        Spec.val (.int .i64 (X8 : Nat)),
        Spec.val (.bool false),
        Spec.val (.bool false),
        Spec.val (.slice A3 (m.length) c3),
        Spec.row #[.slice A3 (m.length) c3] 22 1,
        Spec.val (.int .i64 (X16 : Nat)),
        Spec.val (.slice A l.length c),
        Spec.val (.int .i64 (m.length : Nat)),
        Spec.val (.slice A (m.length) c),
        Spec.row #[.slice A (m.length) c] 22 1,
        Spec.val (.int .i64 (Y16 : Nat)),
        Spec.val (.slice B m.length d),
        Spec.val (.int .i64 (m.length : Nat)),
        Spec.val (.slice B (m.length) d),
        Spec.row #[.slice B (m.length) d] 22 1,
        Spec.val (.int .i64 (Z16 : Nat)),
        Spec.val (.int .i64 (X16 : Nat)),
        Spec.val (.bool false),
        Spec.val (.bool false)] wr (by kernel_rfl) (by repeat (first | exact Below.refl _ _ | assumption | refine below_drewN ?_ _ | refine Below.drew ?_ | refine Below.alloc ?_ (Nat.le_refl _) _ | refine bal ?_ _ | refine bnext ?_ (by assumption))) (n := 145) rfl (by decide +kernel) ⟨?_, ?_, ?_, ?_, ?_, ?_, ?_, ?_, ?_, ?_, ?_, ?_, ?_, ?_, ?_, ?_, ?_, ?_, ?_, ?_, ?_, ?_, ?_, ?_, ?_, ?_, ?_, ?_, ?_, ?_, ?_, ?_, trivial⟩ ?_
      · intro a w hJ hfr hdep
        have s8 : a.tmps.getD 8 undef = .slice A3 (m.length) c3 := (hfr 8 (by decide)).trans rfl
        have s8' := slot' s8
        clear hfr hdep
        refine if_wanted rfl (fun Q => op_any (fun K hK => ?_))
        go_simp
        exact hK _ _ rfl hJ (Below.refl _ _)
      · intro a w hJ hfr hdep
        have s42 : a.tmps.getD 42 undef = .slice A3 (m.length) c3 := hdep 0 _ 42 (by decide) rfl rfl
        have s42' := slot' s42
        clear hfr hdep
        refine if_wanted rfl (fun Q => op_any (fun K hK => ?_))
        go_simp
        exact hK _ _ ⟨_, rfl, heap_alloc_new w _⟩ (bal hJ _) (bal (Below.refl _ _) _)
      · intro a w hJ hfr hdep
        obtain ⟨g43, s43, b43⟩ := hdep 1 _ 43 (by decide) rfl rfl
        have s43' := slot' s43
        clear hfr hdep
        refine if_wanted rfl (fun Q => op_any (fun K hK => ?_))
        go_simp
        refine (Sum8_any [((xorL l m).take (m.length))] _ _ _ (BSS.blk1 b43 (HC.out.below hJ)) (by simp) HLx.out).mono ?_
        rintro e w1 ⟨rfl, hb1⟩
        exact hK _ _ (by show Value.int .i64 _ = _; rw [show [((xorL l m).take (m.length))].flatten = ((xorL l m).take (m.length)) from by simp, HX8.out]) (bnext hJ hb1) hb1
      · intro a w hJ hfr hdep
        have s0 : a.tmps.getD 0 undef = .slice A l.length c := (hfr 0 (by decide)).trans rfl
        have s0' := slot' s0
        clear hfr hdep
        refine if_wanted rfl (fun Q => op_any (fun K hK => ?_))
        go_simp
        exact hK _ _ rfl hJ (Below.refl _ _)
      · intro a w hJ hfr hdep
        have s7 : a.tmps.getD 7 undef = .int .i64 (m.length : Nat) := (hfr 7 (by decide)).trans rfl
        have s7' := slot' s7
        clear hfr hdep
        refine if_wanted rfl (fun Q => op_any (fun K hK => ?_))
        go_simp
        exact hK _ _ rfl hJ (Below.refl _ _)
      · intro a w hJ hfr hdep
        have s45 : a.tmps.getD 45 undef = .slice A l.length c := hdep 3 _ 45 (by decide) rfl rfl
        have s46 : a.tmps.getD 46 undef = .int .i64 (m.length : Nat) := hdep 4 _ 46 (by decide) rfl rfl
        have s45' := slot' s45
        have s46' := slot' s46
        clear hfr hdep
        refine if_wanted rfl (fun Q => op_any (fun K hK => ?_))
        go_simp
        exact hK _ _ rfl hJ (Below.refl _ _)
      · intro a w hJ hfr hdep
        have s47 : a.tmps.getD 47 undef = .slice A (m.length) c := hdep 5 _ 47 (by decide) rfl rfl
        have s47' := slot' s47
        clear hfr hdep
        refine if_wanted rfl (fun Q => op_any (fun K hK => ?_))
        go_simp
        exact hK _ _ ⟨_, rfl, heap_alloc_new w _⟩ (bal hJ _) (bal (Below.refl _ _) _)
      · intro a w hJ hfr hdep
        obtain ⟨g48, s48, b48⟩ := hdep 6 _ 48 (by decide) rfl rfl
        have s48' := slot' s48
        clear hfr hdep
        refine if_wanted rfl (fun Q => op_any (fun K hK => ?_))
        go_simp
        refine (Sum8_any [(l.take (m.length))] _ _ _ (BSS.blk1 b48 (HAn.out.below hJ)) (by simp) HLl.out).mono ?_
        rintro e w1 ⟨rfl, hb1⟩
        exact hK _ _ (by show Value.int .i64 _ = _; rw [show [(l.take (m.length))].flatten = (l.take (m.length)) from by simp, HY8.out]) (bnext hJ hb1) hb1
      · intro a w hJ hfr hdep
        have s1 : a.tmps.getD 1 undef = .slice B m.length d := (hfr 1 (by decide)).trans rfl
        have s1' := slot' s1
        clear hfr hdep
        refine if_wanted rfl (fun Q => op_any (fun K hK => ?_))
        go_simp
        exact hK _ _ rfl hJ (Below.refl _ _)
      · intro a w hJ hfr hdep
        have s7 : a.tmps.getD 7 undef = .int .i64 (m.length : Nat) := (hfr 7 (by decide)).trans rfl
        have s7' := slot' s7
        clear hfr hdep
        refine if_wanted rfl (fun Q => op_any (fun K hK => ?_))
        go_simp
        exact hK _ _ rfl hJ (Below.refl _ _)
      · intro a w hJ hfr hdep
        have s50 : a.tmps.getD 50 undef = .slice B m.length d := hdep 8 _ 50 (by decide) rfl rfl
        have s51 : a.tmps.getD 51 undef = .int .i64 (m.length : Nat) := hdep 9 _ 51 (by decide) rfl rfl
        have s50' := slot' s50
        have s51' := slot' s51
        clear hfr hdep
        refine if_wanted rfl (fun Q => op_any (fun K hK => ?_))
        go_simp
        exact hK _ _ rfl hJ (Below.refl _ _)
      · intro a w hJ hfr hdep
        have s52 : a.tmps.getD 52 undef = .slice B (m.length) d := hdep 10 _ 52 (by decide) rfl rfl
        have s52' := slot' s52
        clear hfr hdep
        refine if_wanted rfl (fun Q => op_any (fun K hK => ?_))
        go_simp
        exact hK _ _ ⟨_, rfl, heap_alloc_new w _⟩ (bal hJ _) (bal (Below.refl _ _) _)
      · intro a w hJ hfr hdep
        obtain ⟨g53, s53, b53⟩ := hdep 11 _ 53 (by decide) rfl rfl
        have s53' := slot' s53
        clear hfr hdep
        refine if_wanted rfl (fun Q => op_any (fun K hK => ?_))
        go_simp
        refine (Sum8_any [(m.take (m.length))] _ _ _ (BSS.blk1 b53 (HBn.out.below hJ)) (by simp) HLm.out).mono ?_
        rintro e w1 ⟨rfl, hb1⟩
        exact hK _ _ (by show Value.int .i64 _ = _; rw [show [(m.take (m.length))].flatten = (m.take (m.length)) from by simp, HZ8.out]) (bnext hJ hb1) hb1
      · intro a w hJ hfr hdep
        have s49 : a.tmps.getD 49 undef = .int .i64 (Y8 : Nat) := hdep 7 _ 49 (by decide) rfl rfl
        have s54 : a.tmps.getD 54 undef = .int .i64 (Z8 : Nat) := hdep 12 _ 54 (by decide) rfl rfl
        have s49' := slot' s49
        have s54' := slot' s54
        clear hfr hdep
        refine if_wanted rfl (fun Q => op_any (fun K hK => ?_))
        go_simp
        exact hK _ _ rfl hJ (Below.refl _ _)
      · intro a w hJ hfr hdep
        have s44 : a.tmps.getD 44 undef = .int .i64 (X8 : Nat) := hdep 2 _ 44 (by decide) rfl rfl
        have s55 : a.tmps.getD 55 undef = .int .i64 (X8 : Nat) := hdep 13 _ 55 (by decide) rfl rfl
        have s44' := slot' s44
        have s55' := slot' s55
        clear hfr hdep
        refine if_wanted rfl (fun Q => op_any (fun K hK => ?_))
        go_simp
        exact hK _ _ rfl hJ (Below.refl _ _)
      · intro a w hJ hfr hdep
        have s56 : a.tmps.getD 56 undef = .bool false := hdep 14 _ 56 (by decide) rfl rfl
        have s56' := slot' s56
        clear hfr hdep
        refine if_wanted rfl (fun Q => op_any (fun K hK => ?_))
        go_simp
        exact hK _ _ rfl hJ (Below.refl _ _)
      · intro a w hJ hfr hdep
        have sg : a.tmps.getD 57 undef = .bool false := hdep 15 _ 57 (by decide) rfl rfl
        have s8 : a.tmps.getD 8 undef = .slice A3 (m.length) c3 := (hfr 8 (by decide)).trans rfl
        have s8' := slot' s8
        clear hfr hdep
        refine if_wanted (wanted_yes rfl rfl rfl sg) (fun Q => op_any (fun K hK => ?_))
        go_simp
        exact hK _ _ rfl hJ (Below.refl _ _)
      · intro a w hJ hfr hdep
        have sg : a.tmps.getD 57 undef = .bool false := hdep 15 _ 57 (by decide) rfl rfl
        have s58 : a.tmps.getD 58 undef = .slice A3 (m.length) c3 := hdep 16 _ 58 (by decide) rfl rfl
        have s58' := slot' s58
        clear hfr hdep
        refine if_wanted (wanted_yes rfl rfl rfl sg) (fun Q => op_any (fun K hK => ?_))
        go_simp
        exact hK _ _ ⟨_, rfl, heap_alloc_new w _⟩ (bal hJ _) (bal (Below.refl _ _) _)
      · intro a w hJ hfr hdep
        have sg : a.tmps.getD 57 undef = .bool false := hdep 15 _ 57 (by decide) rfl rfl
        obtain ⟨g59, s59, b59⟩ := hdep 17 _ 59 (by decide) rfl rfl
        have s59' := slot' s59
        clear hfr hdep
        refine if_wanted (wanted_yes rfl rfl rfl sg) (fun Q => op_any (fun K hK => ?_))
        go_simp
        refine (Sum16_any [((xorL l m).take (m.length))] _ _ _ (BSS.blk1 b59 (HC.out.below hJ)) (by simp) HLx.out).mono ?_
        rintro e w1 ⟨rfl, hb1⟩
        exact hK _ _ (by show Value.int .i64 _ = _; rw [show [((xorL l m).take (m.length))].flatten = ((xorL l m).take (m.length)) from by simp, HX16.out]) (bnext hJ hb1) hb1
      · intro a w hJ hfr hdep
        have sg : a.tmps.getD 57 undef = .bool false := hdep 15 _ 57 (by decide) rfl rfl
        have s0 : a.tmps.getD 0 undef = .slice A l.length c := (hfr 0 (by decide)).trans rfl
        have s0' := slot' s0
        clear hfr hdep
        refine if_wanted (wanted_yes rfl rfl rfl sg) (fun Q => op_any (fun K hK => ?_))
        go_simp
        exact hK _ _ rfl hJ (Below.refl _ _)
      · intro a w hJ hfr hdep
        have sg : a.tmps.getD 57 undef = .bool false := hdep 15 _ 57 (by decide) rfl rfl
        have s7 : a.tmps.getD 7 undef = .int .i64 (m.length : Nat) := (hfr 7 (by decide)).trans rfl
        have s7' := slot' s7
        clear hfr hdep
        refine if_wanted (wanted_yes rfl rfl rfl sg) (fun Q => op_any (fun K hK => ?_))
        go_simp
        exact hK _ _ rfl hJ (Below.refl _ _)
      · intro a w hJ hfr hdep
        have sg : a.tmps.getD 57 undef = .bool false := hdep 15 _ 57 (by decide) rfl rfl
        have s61 : a.tmps.getD 61 undef = .slice A l.length c := hdep 19 _ 61 (by decide) rfl rfl
        have s62 : a.tmps.getD 62 undef = .int .i64 (m.length : Nat) := hdep 20 _ 62 (by decide) rfl rfl
        have s61' := slot' s61
        have s62' := slot' s62
        clear hfr hdep
        refine if_wanted (wanted_yes rfl rfl rfl sg) (fun Q => op_any (fun K hK => ?_))
        go_simp
        exact hK _ _ rfl hJ (Below.refl _ _)
      · intro a w hJ hfr hdep
        have sg : a.tmps.getD 57 undef = .bool false := hdep 15 _ 57 (by decide) rfl rfl
        have s63 : a.tmps.getD 63 undef = .slice A (m.length) c := hdep 21 _ 63 (by decide) rfl rfl
        have s63' := slot' s63
        clear hfr hdep
        refine if_wanted (wanted_yes rfl rfl rfl sg) (fun Q => op_any (fun K hK => ?_))
        go_simp
        exact hK _ _ ⟨_, rfl, heap_alloc_new w _⟩ (bal hJ _) (bal (Below.refl _ _) _)
      · intro a w hJ hfr hdep
        have sg : a.tmps.getD 57 undef = .bool false := hdep 15 _ 57 (by decide) rfl rfl
        obtain ⟨g64, s64, b64⟩ := hdep 22 _ 64 (by decide) rfl rfl
        have s64' := slot' s64
        clear hfr hdep
        refine if_wanted (wanted_yes rfl rfl rfl sg) (fun Q => op_any (fun K hK => ?_))
        go_simp
        refine (Sum16_any [(l.take (m.length))] _ _ _ (BSS.blk1 b64 (HAn.out.below hJ)) (by simp) HLl.out).mono ?_
        rintro e w1 ⟨rfl, hb1⟩
        exact hK _ _ (by show Value.int .i64 _ = _; rw [show [(l.take (m.length))].flatten = (l.take (m.length)) from by simp, HY16.out]) (bnext hJ hb1) hb1
      · intro a w hJ hfr hdep
        have sg : a.tmps.getD 57 undef = .bool false := hdep 15 _ 57 (by decide) rfl rfl
        have s1 : a.tmps.getD 1 undef = .slice B m.length d := (hfr 1 (by decide)).trans rfl
        have s1' := slot' s1
        clear hfr hdep
        refine if_wanted (wanted_yes rfl rfl rfl sg) (fun Q => op_any (fun K hK => ?_))
        go_simp
        exact hK _ _ rfl hJ (Below.refl _ _)
      · intro a w hJ hfr hdep
        have sg : a.tmps.getD 57 undef = .bool false := hdep 15 _ 57 (by decide) rfl rfl
        have s7 : a.tmps.getD 7 undef = .int .i64 (m.length : Nat) := (hfr 7 (by decide)).trans rfl
        have s7' := slot' s7
        clear hfr hdep
        refine if_wanted (wanted_yes rfl rfl rfl sg) (fun Q => op_any (fun K hK => ?_))
        go_simp
        exact hK _ _ rfl hJ (Below.refl _ _)
      · intro a w hJ hfr hdep
        have sg : a.tmps.getD 57 undef = .bool false := hdep 15 _ 57 (by decide) rfl rfl
        have s66 : a.tmps.getD 66 undef = .slice B m.length d := hdep 24 _ 66 (by decide) rfl rfl
        have s67 : a.tmps.getD 67 undef = .int .i64 (m.length : Nat) := hdep 25 _ 67 (by decide) rfl rfl
        have s66' := slot' s66
        have s67' := slot' s67
        clear hfr hdep
        refine if_wanted (wanted_yes rfl rfl rfl sg) (fun Q => op_any (fun K hK => ?_))
        go_simp
        exact hK _ _ rfl hJ (Below.refl _ _)
      · intro a w hJ hfr hdep
        have sg : a.tmps.getD 57 undef = .bool false := hdep 15 _ 57 (by decide) rfl rfl
        have s68 : a.tmps.getD 68 undef = .slice B (m.length) d := hdep 26 _ 68 (by decide) rfl rfl
        have s68' := slot' s68
        clear hfr hdep
        refine if_wanted (wanted_yes rfl rfl rfl sg) (fun Q => op_any (fun K hK => ?_))
        go_simp
        exact hK _ _ ⟨_, rfl, heap_alloc_new w _⟩ (bal hJ _) (bal (Below.refl _ _) _)
      · intro a w hJ hfr hdep
        have sg : a.tmps.getD 57 undef = .bool false := hdep 15 _ 57 (by decide) rfl rfl
        obtain ⟨g69, s69, b69⟩ := hdep 27 _ 69 (by decide) rfl rfl
        have s69' := slot' s69
        clear hfr hdep
        refine if_wanted (wanted_yes rfl rfl rfl sg) (fun Q => op_any (fun K hK => ?_))
        go_simp
        refine (Sum16_any [(m.take (m.length))] _ _ _ (BSS.blk1 b69 (HBn.out.below hJ)) (by simp) HLm.out).mono ?_
        rintro e w1 ⟨rfl, hb1⟩
        exact hK _ _ (by show Value.int .i64 _ = _; rw [show [(m.take (m.length))].flatten = (m.take (m.length)) from by simp, HZ16.out]) (bnext hJ hb1) hb1
      · intro a w hJ hfr hdep
        have sg : a.tmps.getD 57 undef = .bool false := hdep 15 _ 57 (by decide) rfl rfl
        have s65 : a.tmps.getD 65 undef = .int .i64 (Y16 : Nat) := hdep 23 _ 65 (by decide) rfl rfl
        have s70 : a.tmps.getD 70 undef = .int .i64 (Z16 : Nat) := hdep 28 _ 70 (by decide) rfl rfl
        have s65' := slot' s65
        have s70' := slot' s70
        clear hfr hdep
        refine if_wanted (wanted_yes rfl rfl rfl sg) (fun Q => op_any (fun K hK => ?_))
        go_simp
        exact hK _ _ rfl hJ (Below.refl _ _)
      · intro a w hJ hfr hdep
        have sg : a.tmps.getD 57 undef = .bool false := hdep 15 _ 57 (by decide) rfl rfl
        have s60 : a.tmps.getD 60 undef = .int .i64 (X16 : Nat) := hdep 18 _ 60 (by decide) rfl rfl
        have s71 : a.tmps.getD 71 undef = .int .i64 (X16 : Nat) := hdep 29 _ 71 (by decide) rfl rfl
        have s60' := slot' s60
        have s71' := slot' s71
        clear hfr hdep
        refine if_wanted (wanted_yes rfl rfl rfl sg) (fun Q => op_any (fun K hK => ?_))
        go_simp
        exact hK _ _ rfl hJ (Below.refl _ _)
      · intro a w hJ hfr hdep
        have s57 : a.tmps.getD 57 undef = .bool false := hdep 15 _ 57 (by decide) rfl rfl
        have s72 : a.tmps.getD 72 undef = .bool false := hdep 30 _ 72 (by decide) rfl rfl
        have s57' := slot' s57
        have s72' := slot' s72
        clear hfr hdep
        refine if_wanted rfl (fun Q => op_any (fun K hK => ?_))
        go_simp
        exact hK _ _ rfl hJ (Below.refl _ _)
      intro f w' hJ hR
      have e0 : f 0 = .slice A3 (m.length) c3 := hR 0 (by decide)
      obtain ⟨g1', e1, b1'⟩ := hR 1 (by decide)
      have e2 : f 2 = .int .i64 (X8 : Nat) := hR 2 (by decide)
      have e3 : f 3 = .slice A l.length c := hR 3 (by decide)
      have e4 : f 4 = .int .i64 (m.length : Nat) := hR 4 (by decide)
      have e5 : f 5 = .slice A (m.length) c := hR 5 (by decide)
      obtain ⟨g6', e6, b6'⟩ := hR 6 (by decide)
      have e7 : f 7 = .int .i64 (Y8 : Nat) := hR 7 (by decide)
      have e8 : f 8 = .slice B m.length d := hR 8 (by decide)
      have e9 : f 9 = .int .i64 (m.length : Nat) := hR 9 (by decide)
      have e10 : f 10 = .slice B (m.length) d := hR 10 (by decide)
      obtain ⟨g11', e11, b11'⟩ := hR 11 (by decide)
      have e12 : f 12 = .int .i64 (Z8 : Nat) := hR 12 (by decide)
      have e13 : f 13 = .int .i64 (X8 : Nat) := hR 13 (by decide)
      have e14 : f 14 = .bool false := hR 14 (by decide)
      have e15 : f 15 = .bool false := hR 15 (by decide)
      have e16 : f 16 = .slice A3 (m.length) c3 := hR 16 (by decide)
      obtain ⟨g17', e17, b17'⟩ := hR 17 (by decide)
      have e18 : f 18 = .int .i64 (X16 : Nat) := hR 18 (by decide)
      have e19 : f 19 = .slice A l.length c := hR 19 (by decide)
      have e20 : f 20 = .int .i64 (m.length : Nat) := hR 20 (by decide)
      have e21 : f 21 = .slice A (m.length) c := hR 21 (by decide)
      obtain ⟨g22', e22, b22'⟩ := hR 22 (by decide)
      have e23 : f 23 = .int .i64 (Y16 : Nat) := hR 23 (by decide)
      have e24 : f 24 = .slice B m.length d := hR 24 (by decide)
      have e25 : f 25 = .int .i64 (m.length : Nat) := hR 25 (by decide)
      have e26 : f 26 = .slice B (m.length) d := hR 26 (by decide)
      obtain ⟨g27', e27, b27'⟩ := hR 27 (by decide)
      have e28 : f 28 = .int .i64 (Z16 : Nat) := hR 28 (by decide)
      have e29 : f 29 = .int .i64 (X16 : Nat) := hR 29 (by decide)
      have e30 : f 30 = .bool false := hR 30 (by decide)
      have e31 : f 31 = .bool false := hR 31 (by decide)
      clear hR
      simp only [finA, Act.put, List.setIfInBounds_toArray, List.set_cons_succ, List.set_cons_zero, Nat.reduceAdd, e0, e1, e2, e3, e4, e5, e6, e7, e8, e9, e10, e11, e12, e13, e14, e15, e16, e17, e18, e19, e20, e21, e22, e23, e24, e25, e26, e27, e28, e29, e30, e31]
      clear e0 e1 e2 e3 e4 e5 e6 e7 e8 e9 e10 e11 e12 e13 e14 e15 e16 e17 e18 e19 e20 e21 e22 e23 e24 e25 e26 e27 e28 e29 e30 e31
      have hw' : Below w.heap.size w w' := hb'.trans (hJ.mono hb'.size)
      have hp0' : w'.cell? ⟨w.heap.size, 0, none⟩ = some (.int .i64 p) := (hJ.cell (p := ⟨w.heap.size, 0, none⟩) (Nat.lt_of_lt_of_le hs0 hb.size)).trans ((hb.cell (p := ⟨w.heap.size, 0, none⟩) hs0).trans hp0)
      have hp1' : w'.cell? ⟨w.heap.size, 1, none⟩ = some (.int .i64 q) := (hJ.cell (p := ⟨w.heap.size, 1, none⟩) (Nat.lt_of_lt_of_le hs0 hb.size)).trans ((hb.cell (p := ⟨w.heap.size, 1, none⟩) hs0).trans hp1)
      have hsw : w.heap.size < w'.heap.size := Nat.lt_of_lt_of_le hs0 (Nat.le_trans hb.size hJ.size)
      have HC' : Hid (BS w' (.slice A3 (m.length) c3) ((xorL l m).take (m.length))) := HC.out.below hJ
      have HLx1 : Hid (((xorL l m).take (m.length)).length < 4611686018427387904) := HLx.out _ (List.mem_singleton.2 rfl)
      clear hp0 hp1 hs0 hJ hb hb0 hb' E8 E16 HC HAn HBn HLx HLl HLm HX8 HY8 HZ8 HY16 HZ16 Hown3
      by_cases g1 : p < 0
      · go_wp2_with fail
        (refine (awake_any _).mono ?_; rintro e w9 ⟨rfl, hb9⟩; go_wp2_with fail; go_ret; exact ⟨rfl, by repeat (first | exact Below.refl _ _ | assumption | refine below_drewN ?_ _ | refine Below.drew ?_ | refine Below.alloc ?_ (Nat.le_refl _) _ | refine bal ?_ _ | refine bnext ?_ (by assumption))⟩)
      by_cases g2 : 3000 < p
      · go_wp2_with fail
        (refine (awake_any _).mono ?_; rintro e w9 ⟨rfl, hb9⟩; go_wp2_with fail; go_ret; exact ⟨rfl, by repeat (first | exact Below.refl _ _ | assumption | refine below_drewN ?_ _ | refine Below.drew ?_ | refine Below.alloc ?_ (Nat.le_refl _) _ | refine bal ?_ _ | refine bnext ?_ (by assumption))⟩)
      by_cases g3 : q < 0
      · go_wp2_with fail
        (refine (awake_any _).mono ?_; rintro e w9 ⟨rfl, hb9⟩; go_wp2_with fail; go_ret; exact ⟨rfl, by repeat (first | exact Below.refl _ _ | assumption | refine below_drewN ?_ _ | refine Below.drew ?_ | refine Below.alloc ?_ (Nat.le_refl _) _ | refine bal ?_ _ | refine bnext ?_ (by assumption))⟩)
      by_cases g4 : 3000 < q
      · go_wp2_with fail
        (refine (awake_any _).mono ?_; rintro e w9 ⟨rfl, hb9⟩; go_wp2_with fail; go_ret; exact ⟨rfl, by repeat (first | exact Below.refl _ _ | assumption | refine below_drewN ?_ _ | refine Below.drew ?_ | refine Below.alloc ?_ (Nat.le_refl _) _ | refine bal ?_ _ | refine bnext ?_ (by assumption))⟩)
      have Hx : Hid (it step16 p.toNat X16 < 65536) := it_lt step16_lt _ _ Hs16.out
      have S1 : Hid (∀ W : World, Calls Try.prog 14 #[.int .i64 X16, .int .i64 p] W fun e w' => e = .returned (.tuple #[.int .i64 (it step16 p.toNat X16 : Nat), .int .i64 0]) ∧ Below W.heap.size W w') := by
        intro W
        have := Shift16_ok X16 p.toNat Hs16.out (by omega) W
        rwa [Int.toNat_of_nonneg (by omega)] at this
      have S2 : Hid (∀ W : World, Calls Try.prog 14 #[.int .i64 (it step16 p.toNat X16 : Nat), .int .i64 q] W fun e w' => e = .returned (.tuple #[.int .i64 (it step16 (q.toNat + p.toNat) X16 : Nat), .int .i64 0]) ∧ Below W.heap.size W w') := by
        intro W
        have := Shift16_ok _ q.toNat Hx.out (by omega) W
        rw [Int.toNat_of_nonneg (by omega), ← Crc.it_add] at this
        exact this
      have S3 : Hid (∀ W : World, Calls Try.prog 14 #[.int .i64 X16, .int .i64 (p + q)] W fun e w' => e = .returned (.tuple #[.int .i64 (it step16 (q.toNat + p.toNat) X16 : Nat), .int .i64 0]) ∧ Below W.heap.size W w') := by
        intro W
        have := Shift16_ok X16 (q.toNat + p.toNat) Hs16.out (by omega) W
        rw [show (((q.toNat + p.toNat : Nat)) : Int) = p + q from by omega] at this
        exact this
      have Hz : Hid ((((it step16 p.toNat X16 : Nat) : Int) == 0) = ((X16 : Int) == 0)) := by
        show ((_ : Int) == 0) = (_ == 0)
        by_cases z : X16 = 0
        · rw [z, step16_eq, Crc.p16.it_zero]
        · have h1 := Crc.p16.it_ne (by decide) p.toNat X16 Hs16.out z
          rw [← step16_eq] at h1
          rw [beq_eq_false_iff_ne.2 (by omega), beq_eq_false_iff_ne.2 (by omega)]
      obtain ⟨x, hx⟩ : ∃ x, it step16 p.toNat X16 = x := ⟨_, rfl⟩
      obtain ⟨y, hy⟩ : ∃ y, it step16 (q.toNat + p.toNat) X16 = y := ⟨_, rfl⟩
      rw [hx] at S1 S2 Hz
      rw [hy] at S2 S3
      clear hx hy Hx
      have hz := Hz.out
      clear Hz
      obtain ⟨bz, hbz⟩ : ∃ bz, ((X16 : Int) == 0) = bz := ⟨_, rfl⟩
      rw [hbz] at hz
      go_wp2_with fail
      refine (Sum16_one HC'.out (Below.refl _ _) (by simp) HLx1.out).mono ?_
      rintro e w3 ⟨rfl, hb3⟩
      rw [HX16.out]
      have hc3a : w3.cell? ⟨w.heap.size, 0, none⟩ = some (.int .i64 p) := (hb3.cell (p := ⟨w.heap.size, 0, none⟩) hsw).trans hp0'
      have hc3b : w3.cell? ⟨w.heap.size, 1, none⟩ = some (.int .i64 q) := (hb3.cell (p := ⟨w.heap.size, 1, none⟩) hsw).trans hp1'
      have hsw3 : w.heap.size < w3.heap.size := Nat.lt_of_lt_of_le hsw hb3.size
      go_wp2_with fail
      refine (S1.out _).mono ?_
      rintro e w4 ⟨rfl, hb4⟩
      have hc4a : w4.cell? ⟨w.heap.size, 0, none⟩ = some (.int .i64 p) := (hb4.cell (p := ⟨w.heap.size, 0, none⟩) hsw3).trans hc3a
      have hc4b : w4.cell? ⟨w.heap.size, 1, none⟩ = some (.int .i64 q) := (hb4.cell (p := ⟨w.heap.size, 1, none⟩) hsw3).trans hc3b
      have hsw4 : w.heap.size < w4.heap.size := Nat.lt_of_lt_of_le hsw3 hb4.size
      go_wp2_with fail
      refine (S2.out _).mono ?_
      rintro e w5 ⟨rfl, hb5⟩
      have hc5a : w5.cell? ⟨w.heap.size, 0, none⟩ = some (.int .i64 p) := (hb5.cell (p := ⟨w.heap.size, 0, none⟩) hsw4).trans hc4a
      have hc5b : w5.cell? ⟨w.heap.size, 1, none⟩ = some (.int .i64 q) := (hb5.cell (p := ⟨w.heap.size, 1, none⟩) hsw4).trans hc4b
      go_wp2_with fail
      refine (S3.out _).mono ?_
      rintro e w6 ⟨rfl, hb6⟩
      have hend : Below w.heap.size w w6 := bnext (bnext (bnext (bnext hw' hb3) hb4) hb5) hb6
      go_wp2_with fail
      (refine (awake_any _).mono ?_; rintro e w9 ⟨rfl, hb9⟩; go_wp2_with fail; go_ret; exact ⟨rfl, by repeat (first | exact Below.refl _ _ | assumption | refine below_drewN ?_ _ | refine Below.drew ?_ | refine Below.alloc ?_ (Nat.le_refl _) _ | refine bal ?_ _ | refine bnext ?_ (by assumption))⟩)
end Go.Proofs.Ytjfjkmbokiinbaa
