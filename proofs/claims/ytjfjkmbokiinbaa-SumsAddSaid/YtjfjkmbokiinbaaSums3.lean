/-
  The sums of one, two, three parts that were made right before.
-/
import Derived.Test.YtjfjkmbokiinbaaCrcEq
import Derived.Test.YtjfjkmbokiinbaaCrc2
namespace Go.Proofs.Ytjfjkmbokiinbaa
open Go.RowKit

theorem Sum8_one {w0 W : World} {v : Value} {l : List UInt8} (h : BS w0 v l) (hb : Below w0.heap.size w0 W) {H : Nat} (hH : W.heap.size = H) (hl : l.length < 4611686018427387904) :
    Calls Try.prog 10 #[.slice (some ⟨H, 0, none⟩) 1 1] (W.alloc (.cells #[v] 22)) fun e w' => e = .returned (.int .i64 (crc8 0 l)) ∧ Below W.heap.size W w' := by
  have hB : BSS (W.alloc (.cells #[v] 22)) (.slice (some ⟨H, 0, none⟩) 1 1) [l] := BSS.one (w := W) (h.below hb) _ hH
  refine (Sum8_any [l] _ _ _ hB (by simp) (by simpa using hl)).mono ?_
  rintro e w1 ⟨rfl, hb1⟩
  exact ⟨by simp, bnext (by repeat (first | exact Below.refl _ _ | assumption | refine below_drewN ?_ _ | refine Below.drew ?_ | refine Below.alloc ?_ (Nat.le_refl _) _ | refine bal ?_ _ | refine bnext ?_ (by assumption))) hb1⟩
theorem Sum8_two {w0 W : World} {v v' : Value} {l l' : List UInt8} (h : BS w0 v l) (h' : BS w0 v' l') (hb : Below w0.heap.size w0 W) {H : Nat} (hH : W.heap.size = H) (hl : l.length < 4611686018427387904) (hl' : l'.length < 4611686018427387904) :
    Calls Try.prog 10 #[.slice (some ⟨H, 0, none⟩) 2 2] (W.alloc (.cells #[v, v'] 22)) fun e w' => e = .returned (.int .i64 (crc8 0 (l ++ l'))) ∧ Below W.heap.size W w' := by
  have hB : BSS (W.alloc (.cells #[v, v'] 22)) (.slice (some ⟨H, 0, none⟩) 2 2) [l, l'] := BSS.two (w := W) (h.below hb) (h'.below hb) _ hH
  refine (Sum8_any [l, l'] _ _ _ hB (by simp) (by intro x hx; simp at hx; rcases hx with rfl | rfl <;> assumption)).mono ?_
  rintro e w1 ⟨rfl, hb1⟩
  exact ⟨by simp, bnext (by repeat (first | exact Below.refl _ _ | assumption | refine below_drewN ?_ _ | refine Below.drew ?_ | refine Below.alloc ?_ (Nat.le_refl _) _ | refine bal ?_ _ | refine bnext ?_ (by assumption))) hb1⟩

theorem Sum16_one {w0 W : World} {v : Value} {l : List UInt8} (h : BS w0 v l) (hb : Below w0.heap.size w0 W) {H : Nat} (hH : W.heap.size = H) (hl : l.length < 4611686018427387904) :
    Calls Try.prog 12 #[.slice (some ⟨H, 0, none⟩) 1 1] (W.alloc (.cells #[v] 22)) fun e w' => e = .returned (.int .i64 (crc16 0 l)) ∧ Below W.heap.size W w' := by
  have hB : BSS (W.alloc (.cells #[v] 22)) (.slice (some ⟨H, 0, none⟩) 1 1) [l] := BSS.one (w := W) (h.below hb) _ hH
  refine (Sum16_any [l] _ _ _ hB (by simp) (by simpa using hl)).mono ?_
  rintro e w1 ⟨rfl, hb1⟩
  exact ⟨by simp, bnext (by repeat (first | exact Below.refl _ _ | assumption | refine below_drewN ?_ _ | refine Below.drew ?_ | refine Below.alloc ?_ (Nat.le_refl _) _ | refine bal ?_ _ | refine bnext ?_ (by assumption))) hb1⟩
theorem Sum16_two {w0 W : World} {v v' : Value} {l l' : List UInt8} (h : BS w0 v l) (h' : BS w0 v' l') (hb : Below w0.heap.size w0 W) {H : Nat} (hH : W.heap.size = H) (hl : l.length < 4611686018427387904) (hl' : l'.length < 4611686018427387904) :
    Calls Try.prog 12 #[.slice (some ⟨H, 0, none⟩) 2 2] (W.alloc (.cells #[v, v'] 22)) fun e w' => e = .returned (.int .i64 (crc16 0 (l ++ l'))) ∧ Below W.heap.size W w' := by
  have hB : BSS (W.alloc (.cells #[v, v'] 22)) (.slice (some ⟨H, 0, none⟩) 2 2) [l, l'] := BSS.two (w := W) (h.below hb) (h'.below hb) _ hH
  refine (Sum16_any [l, l'] _ _ _ hB (by simp) (by intro x hx; simp at hx; rcases hx with rfl | rfl <;> assumption)).mono ?_
  rintro e w1 ⟨rfl, hb1⟩
  exact ⟨by simp, bnext (by repeat (first | exact Below.refl _ _ | assumption | refine below_drewN ?_ _ | refine Below.drew ?_ | refine Below.alloc ?_ (Nat.le_refl _) _ | refine bal ?_ _ | refine bnext ?_ (by assumption))) hb1⟩

theorem join8 (a b : List UInt8) : crc8 0 (a ++ b) = it step8 (8 * b.length) (crc8 0 a) ^^^ crc8 0 b := by
  rw [crc8_append, crc8_eq (crc8 0 a), crc8_eq 0 b, Crc.p8.join b _ (by have := crc8_lt 0 (by omega) a; omega)]; rfl
theorem join16 (a b : List UInt8) : crc16 0 (a ++ b) = it step16 (8 * b.length) (crc16 0 a) ^^^ crc16 0 b := by
  have h := crc16_lt 0 (by decide) a
  rw [crc16_append, crc16_eq (crc16 0 a), crc16_eq 0 b, Crc.p16.join b _ h, ← step16_eq]
theorem seal8 (a : List UInt8) : crc8 0 (a ++ [UInt8.ofNat (crc8 0 a)]) = 0 := by
  have h := crc8_lt 0 (by omega) a
  rw [crc8_snoc, UInt8.toNat_ofNat', Nat.mod_eq_of_lt (by omega), nxt8_eq]
  exact Crc.p8.seal _ _ h h (by simp)
theorem seal16 (a : List UInt8) : crc16 0 (a ++ [UInt8.ofNat (crc16 0 a / 256), UInt8.ofNat (crc16 0 a)]) = 0 := by
  have h := crc16_lt 0 (by decide) a
  have e : a ++ [UInt8.ofNat (crc16 0 a / 256), UInt8.ofNat (crc16 0 a)] = (a ++ [UInt8.ofNat (crc16 0 a / 256)]) ++ [UInt8.ofNat (crc16 0 a)] := by simp
  rw [e, crc16_snoc, crc16_snoc, UInt8.toNat_ofNat', UInt8.toNat_ofNat', nxt16_eq, nxt16_eq]
  generalize crc16 0 a = s at h
  rw [Nat.mod_eq_of_lt (show s / 256 < 2 ^ 8 from by omega)]
  exact Crc.p16.seal2 rfl s h
end Go.Proofs.Ytjfjkmbokiinbaa
