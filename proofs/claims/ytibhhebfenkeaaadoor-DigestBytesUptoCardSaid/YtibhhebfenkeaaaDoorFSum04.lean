/-
  digest.Sum: its walk.
-/
import Derived.Test.YtibhhebfenkeaaaDoorDSum04
set_option pp.deepTerms true
set_option pp.maxSteps 100000
namespace Go.Proofs.YtibhhebfenkeaaaDoor
open Go.RowKit

theorem md_empty : osR (mdS []) 16 = #[.int .u8 212, .int .u8 29, .int .u8 140, .int .u8 217, .int .u8 143, .int .u8 0, .int .u8 178, .int .u8 4, .int .u8 233, .int .u8 128, .int .u8 9, .int .u8 152, .int .u8 236, .int .u8 248, .int .u8 66, .int .u8 126] := by
  have h : ∀ i : Fin 16, byteS (mdS []) i.val = [212, 29, 140, 217, 143, 0, 178, 4, 233, 128, 9, 152, 236, 248, 66, 126].getD i.val 0 := by decide +kernel
  apply Array.ext
  · simp [osR]
  · intro i h1 h2
    have hi : i < 16 := by rw [osR_size] at h1; exact h1
    have e1 := osR_at (mdS []) 16 i hi
    rw [Array.getElem?_eq_getElem h1, if_pos hi, h ⟨i, hi⟩] at e1
    rw [Option.some.inj e1]
    have : i = 0 ∨ i = 1 ∨ i = 2 ∨ i = 3 ∨ i = 4 ∨ i = 5 ∨ i = 6 ∨ i = 7 ∨ i = 8 ∨ i = 9 ∨ i = 10 ∨ i = 11 ∨ i = 12 ∨ i = 13 ∨ i = 14 ∨ i = 15 := by omega
    rcases this with rfl | rfl | rfl | rfl | rfl | rfl | rfl | rfl | rfl | rfl | rfl | rfl | rfl | rfl | rfl | rfl <;> rfl

set_option maxRecDepth 100000 in
set_option maxHeartbeats 4000000 in
theorem FSum_any (ls : List (List UInt8)) (A : Option Addr) (c : Nat) (w : World) (hB : BZZ w A ls) (hlen : ls.flatten.length ≤ 90000) (hll : ls.length ≤ 100000) (ht : Tabs w) :
    Calls Tryd.prog 9 #[.slice A ls.length c] w fun e w' => e = .returned (.agg (osR (mdS ls.flatten) 16)) ∧ Below w.heap.size w w' := by
  have HT := Lib.hid ht
  have HO : Hid ((w.alloc (.cells #[.int .u8 0, .int .u8 0, .int .u8 0, .int .u8 0, .int .u8 0, .int .u8 0, .int .u8 0, .int .u8 0, .int .u8 0, .int .u8 0, .int .u8 0, .int .u8 0, .int .u8 0, .int .u8 0, .int .u8 0, .int .u8 0] 24)).heap[w.heap.size]? = some (.cells (osR (mdS ls.flatten) 0) 24 (0, 0))) := heap_alloc_last w _
  have Hb3 : Hid (Below w.heap.size w (w.alloc (.cells #[.int .u8 0, .int .u8 0, .int .u8 0, .int .u8 0, .int .u8 0, .int .u8 0, .int .u8 0, .int .u8 0, .int .u8 0, .int .u8 0, .int .u8 0, .int .u8 0, .int .u8 0, .int .u8 0, .int .u8 0, .int .u8 0] 24))) := bal (Below.refl _ _) _
  have Hsz : Hid ((w.alloc (.cells #[.int .u8 0, .int .u8 0, .int .u8 0, .int .u8 0, .int .u8 0, .int .u8 0, .int .u8 0, .int .u8 0, .int .u8 0, .int .u8 0, .int .u8 0, .int .u8 0, .int .u8 0, .int .u8 0, .int .u8 0, .int .u8 0] 24)).heap.size = w.heap.size + 1) := World.size_alloc _ _
  have HN := New_any (w.alloc (.cells #[.int .u8 0, .int .u8 0, .int .u8 0, .int .u8 0, .int .u8 0, .int .u8 0, .int .u8 0, .int .u8 0, .int .u8 0, .int .u8 0, .int .u8 0, .int .u8 0, .int .u8 0, .int .u8 0, .int .u8 0, .int .u8 0] 24))
  rw [World.size_alloc] at HN
  have HN := Lib.hid HN
  have HBZ := Lib.hid (fun W (h : Below w.heap.size w W) => hB.below h)
  obtain ⟨vs, hvl, hrd, hx⟩ := hB
  have HV := Lib.hid (fun W (h : Below w.heap.size w W) => (⟨hrd.below h, fun j x y h1 h2 => (hx j x y h1 h2).below h⟩ : Rd W A vs ∧ ∀ (j : Nat) (x : Value) (y : List UInt8), vs[j]? = some x → ls[j]? = some y → BZ W x y))
  clear ht hrd hx
  go_enter Tryd.func9, Tryd.ntmps9
  go_wp2_with fail
  generalize w.alloc (.cells #[.int .u8 0, .int .u8 0, .int .u8 0, .int .u8 0, .int .u8 0, .int .u8 0, .int .u8 0, .int .u8 0, .int .u8 0, .int .u8 0, .int .u8 0, .int .u8 0, .int .u8 0, .int .u8 0, .int .u8 0, .int .u8 0] 24) = w2 at *
  refine HN.out.mono ?_
  rintro e w3 ⟨rfl, hD3, hb3⟩
  rw [← Hsz.out] at hb3
  have hb3' : Below w.heap.size w w3 := bnext Hb3.out hb3
  have HD3 : Hid (Dg w3 (w.heap.size + 1) (w.heap.size + 1) (([] : List UInt8).length / 64) [] 0 (.slice none 0 0)) := hD3
  have HO := Lib.hid (hrow_below HO.out hb3)
  have Hb3 := Lib.hid hb3'
  clear hD3 hb3 hb3' HN
  have HA := Lib.hid (Add_any (w.heap.size + 1) (w.heap.size + 1) 0 [] (.slice none 0 0) ls A c w3 HD3.out vs hvl (fun W u' f => HV.out W (f.under Hb3.out HD3.out (Nat.le_succ _))) (by omega) (by simpa using (by omega : ls.flatten.length ≤ 100000)) hll (HT.out.below Hb3.out) (by have := HT.out.two; omega))
  go_wp2_with fail
  refine HA.out.mono ?_
  rintro e w4 ⟨rfl, u4, hD4, hf4⟩
  rw [List.nil_append, Nat.zero_add] at hD4
  have Hb4 : Hid (Below w.heap.size w w4) := hf4.under Hb3.out HD3.out (Nat.le_succ _)
  have HO4 := Lib.hid (hf4.fr.row HO.out (by
    rintro (h | h)
    · omega
    · cases h))
  have HS := Lib.hid (DSum_any (w.heap.size + 1) (w.heap.size + 1) ls.flatten u4 w4 hD4 (by omega) (HT.out.below Hb4.out))
  clear hD4 hf4 HA HD3 HO Hb3
  go_wp2_with fail
  refine HS.out.mono ?_
  rintro e w9 ⟨rfl, hb9⟩
  have HO9 := Lib.hid (hrow_below HO4.out hb9)
  have Hb9 := Lib.hid (bnext Hb4.out hb9)
  clear HS hb9 HO4
  go_wp2_with (refine wpList_store_row (c := osR (mdS ls.flatten) 0) (c' := osR (mdS ls.flatten) 16) (t := 24) rfl 24 _ _ rfl w.heap.size rfl rfl HO9.out (osR_info _ 16) (by rw [osR_size, osR_size]) (osR_one _ 16) ?_)
  exact bodyPost_ret (results_cell_row (cs := osR (mdS ls.flatten) 16) (t := 24) (fr := (0, 0)) (g := w.heap.size) Tryd.results9 _ _ _ rfl (setRow_heap _ w.heap.size _ _ 24 (0, 0) HO9.out) Tryd.underlying24 rfl (osR_info _ 16)) rfl ⟨rfl, Below.setRow Hb9.out (Nat.le_refl _) _⟩
end Go.Proofs.YtibhhebfenkeaaaDoor
