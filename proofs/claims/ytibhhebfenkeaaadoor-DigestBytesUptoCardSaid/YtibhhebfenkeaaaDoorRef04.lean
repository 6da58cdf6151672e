/-
  jetsamref04: word, turns, sines, Padded: their walks.
-/
import Derived.Test.YtibhhebfenkeaaaDoorMd5L
import Derived.Test.YtibhhebfenkeaaaDoorSum04
import Derived.Test.YtibhhebfenkeaaaDoorDSum04
import Derived.BigQuiet
set_option pp.deepTerms true
set_option pp.maxSteps 100000
namespace Go.Proofs.YtibhhebfenkeaaaDoor
open Go.RowKit

theorem word_or (a b c d : Nat) (ha : a < 256) (hb : b < 256) (hc : c < 256) (hd : d < 256) :
    bits .or .u32 (bits .or .u32 (bits .or .u32 (a : Int) ((b : Int) * 256)) ((c : Int) * 65536)) ((d : Int) * 16777216) = ((((d * 256 + c) * 256 + b) * 256 + a : Nat) : Int) := by
  have e1 : a ||| b * 256 = b * 256 + a := by rw [Nat.or_comm]; exact or_add b a ha
  have e2 : (b * 256 + a) ||| c * 65536 = c * 65536 + (b * 256 + a) := by
    have := Nat.two_pow_add_eq_or_of_lt (i := 16) (b := b * 256 + a) (by omega) c
    rw [Nat.or_comm, Nat.mul_comm c]; exact this.symm
  have e3 : (c * 65536 + (b * 256 + a)) ||| d * 16777216 = d * 16777216 + (c * 65536 + (b * 256 + a)) := by
    have := Nat.two_pow_add_eq_or_of_lt (i := 24) (b := c * 65536 + (b * 256 + a)) (by omega) d
    rw [Nat.or_comm, Nat.mul_comm d]; exact this.symm
  have f1 := u32_or a (b * 256) (by omega) (by omega)
  have f2 := u32_or (b * 256 + a) (c * 65536) (by omega) (by omega)
  have f3 := u32_or (c * 65536 + (b * 256 + a)) (d * 16777216) (by omega) (by omega)
  rw [e1] at f1
  rw [e2] at f2
  rw [e3] at f3
  simp only [Int.natCast_mul, Int.natCast_add, Int.cast_ofNat_Int] at f1 f2 f3 ⊢
  rw [f1, f2, f3]
  omega

set_option maxRecDepth 100000 in
set_option maxHeartbeats 1600000 in
theorem word_any (l : List UInt8) (A : Option Addr) (c : Nat) (w : World) (hr : Rd w A (bv l)) (hl : l.length = 4) :
    Calls Tryd.prog 20 #[.slice A 4 c] w fun e w' => e = .returned (.int .u32 (wdF l 0 0 : Nat)) ∧ ∃ q, w' = w.drewN q := by
  obtain ⟨b, o, rfl, -⟩ := hr.at_ (j := 0) (by rw [bv_length, hl]; omega)
  have hc : ∀ j, j < 4 → w.cell? ⟨b, o + j, none⟩ = some (.int .u8 (by1 l j : Nat)) := by
    intro j hj
    obtain ⟨b', o', e, hc'⟩ := hr.at_ (j := j) (by rw [bv_length, hl]; exact hj)
    have e1 : b' = b ∧ o' = o := by simp at e; exact ⟨e.1.symm, e.2.symm⟩
    have e2 := bv_get l j (by omega)
    rw [List.getElem?_eq_getElem (by rw [bv_length]; omega)] at e2
    rw [e1.1, e1.2, Option.some.inj e2] at hc'
    rw [hc']
    unfold by1
    simp only [List.getD_eq_getElem?_getD, List.getElem?_eq_getElem (show j < l.length by omega), Option.getD_some]
  have hw : wdF l 0 0 = ((by1 l 3 * 256 + by1 l 2) * 256 + by1 l 1) * 256 + by1 l 0 := by
    unfold wdF
    simp [pw]
  rw [hw]
  have h0 := hc 0 (by omega)
  have h1 := hc 1 (by omega)
  have h2 := hc 2 (by omega)
  have h3 := hc 3 (by omega)
  rw [Nat.add_zero] at h0
  have b0 := by1_lt l 0
  have b1 := by1_lt l 1
  have b2 := by1_lt l 2
  have b3 := by1_lt l 3
  clear hc hr hw
  generalize by1 l 0 = x0 at *
  generalize by1 l 1 = x1 at *
  generalize by1 l 2 = x2 at *
  generalize by1 l 3 = x3 at *
  have e := word_or x0 x1 x2 x3 b0 b1 b2 b3
  have w0 := u32_wrap_lt x0 (by omega)
  have w1 := u32_wrap_lt x1 (by omega)
  have w2 := u32_wrap_lt x2 (by omega)
  have w3 := u32_wrap_lt x3 (by omega)
  have w1' : IntKind.u32.wrap ((x1 : Int) * 256) = (x1 : Int) * 256 := by have := u32_wrap_lt (x1 * 256) (by omega); rwa [Int.natCast_mul, Int.cast_ofNat_Int] at this
  have w2' : IntKind.u32.wrap ((x2 : Int) * 65536) = (x2 : Int) * 65536 := by have := u32_wrap_lt (x2 * 65536) (by omega); rwa [Int.natCast_mul, Int.cast_ofNat_Int] at this
  have w3' : IntKind.u32.wrap ((x3 : Int) * 16777216) = (x3 : Int) * 16777216 := by have := u32_wrap_lt (x3 * 16777216) (by omega); rwa [Int.natCast_mul, Int.cast_ofNat_Int] at this
  go_enter Tryd.func20, Tryd.ntmps20
  go_wp2_with fail
  go_quiet (fail)
  go_wp2_with fail
  go_ret
  exact ⟨rfl, _, rfl⟩

theorem turns_row : (#[.int .i64 7, .int .i64 12, .int .i64 17, .int .i64 22, .int .i64 5, .int .i64 9, .int .i64 14, .int .i64 20, .int .i64 4, .int .i64 11, .int .i64 16, .int .i64 23, .int .i64 6, .int .i64 10, .int .i64 15, .int .i64 21] : Array Value) = (turnsL.map fun x => Value.int .i64 (x : Nat)).toArray := rfl
theorem turns_any (i : Nat) (hi : i < 64) (w : World) :
    Calls Tryd.prog 21 #[.int .i64 i] w fun e w' => e = .returned (.int .i64 (tn i : Nat)) ∧ Below w.heap.size w w' := by
  have hr := heap_alloc_last w (.cells #[.int .i64 7, .int .i64 12, .int .i64 17, .int .i64 22, .int .i64 5, .int .i64 9, .int .i64 14, .int .i64 20, .int .i64 4, .int .i64 11, .int .i64 16, .int .i64 23, .int .i64 6, .int .i64 10, .int .i64 15, .int .i64 21] 3)
  have hc : (w.alloc (.cells #[.int .i64 7, .int .i64 12, .int .i64 17, .int .i64 22, .int .i64 5, .int .i64 9, .int .i64 14, .int .i64 20, .int .i64 4, .int .i64 11, .int .i64 16, .int .i64 23, .int .i64 6, .int .i64 10, .int .i64 15, .int .i64 21] 3)).cell? ⟨w.heap.size, i / 16 * 4 + i % 4, none⟩ = some (.int .i64 (tn i : Nat)) := by
    rw [cell_of_row _ _ _ _ _ _ hr, turns_row, List.getElem?_toArray, List.getElem?_map]
    unfold tn
    have h16 : i / 16 * 4 + i % 4 < turnsL.length := by show _ < 16; omega
    rw [List.getD_eq_getElem?_getD, List.getElem?_eq_getElem h16]; rfl
  have Hb : Hid (Below w.heap.size w (w.alloc (.cells #[.int .i64 7, .int .i64 12, .int .i64 17, .int .i64 22, .int .i64 5, .int .i64 9, .int .i64 14, .int .i64 20, .int .i64 4, .int .i64 11, .int .i64 16, .int .i64 23, .int .i64 6, .int .i64 10, .int .i64 15, .int .i64 21] 3))) := bal (Below.refl _ _) _
  have Hc := Lib.hid hc
  have h0 : (0 : Int) ≤ (i : Int) / 16 * 4 + (i : Int) % 4 := by omega
  have h1 : (i : Int) / 16 * 4 + (i : Int) % 4 < 16 := by omega
  have h2 : ((i : Int) / 16 * 4 + (i : Int) % 4).toNat = i / 16 * 4 + i % 4 := by omega
  have hi0 : (0 : Int) ≤ (i : Int) := by omega
  have hi1 : (i : Int) < 64 := by omega
  clear hr hc
  go_enter Tryd.func21, Tryd.ntmps21
  go_upto_region 2 with fail
  generalize w.alloc (.cells #[.int .i64 7, .int .i64 12, .int .i64 17, .int .i64 22, .int .i64 5, .int .i64 9, .int .i64 14, .int .i64 20, .int .i64 4, .int .i64 11, .int .i64 16, .int .i64 23, .int .i64 6, .int .i64 10, .int .i64 15, .int .i64 21] 3) = w1 at *
  have hc := Hc.out
  go_wp2_with fail
  go_ret
  exact ⟨rfl, Hb.out⟩

def sinesV : Array Value := (sinesL.map fun x => Value.int .u32 (x : Nat)).toArray
theorem sinesV_at (i : Nat) (h : i < 64) : sinesV[i]? = some (.int .u32 (sn i : Nat)) := by
  unfold sinesV sn
  rw [List.getElem?_toArray, List.getElem?_map, List.getD_eq_getElem?_getD, List.getElem?_eq_getElem (by rw [sinesL_length]; exact h)]; rfl
set_option maxRecDepth 100000 in
set_option maxHeartbeats 4000000 in
theorem sines_any (w : World) :
    Calls Tryd.prog 19 #[] w fun e w' => e = .returned (.slice (some ⟨w.heap.size, 0, none⟩) 64 64) ∧ w' = w.alloc (.cells sinesV 47) := by
  go_enter Tryd.func19, Tryd.ntmps19
  go_wp2_with fail
  go_ret
  exact ⟨rfl, rfl⟩
end Go.Proofs.YtibhhebfenkeaaaDoor
