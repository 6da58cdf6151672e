/-
  digest's sum, New, Len: their walks.
-/
import Derived.Test.YtibhhebfenkeaaaDoorAdd04
namespace Go.Proofs.YtibhhebfenkeaaaDoor
open Go.RowKit

def osR (s : S4) (i : Nat) : Array Value := ((List.range 16).map fun t => Value.int .u8 ((if t < i then byteS s t else 0 : Nat) : Int)).toArray
theorem osR_size (s : S4) (i : Nat) : (osR s i).size = 16 := by simp [osR]
theorem osR_at (s : S4) (i t : Nat) (h : t < 16) : (osR s i)[t]? = some (Value.int .u8 ((if t < i then byteS s t else 0 : Nat) : Int)) := by
  unfold osR
  rw [List.getElem?_toArray, List.getElem?_map, List.getElem?_range h]; rfl
theorem osR_set (s : S4) (i : Nat) (h : i < 16) : (osR s i).setIfInBounds i (.int .u8 (byteS s i : Nat)) = osR s (i + 1) := by
  apply Array.ext
  · simp [osR]
  · intro t h1 h2
    have ht : t < 16 := by rw [osR_size] at h2; exact h2
    have e1 := osR_at s i t ht
    have e2 := osR_at s (i + 1) t ht
    rw [Array.getElem?_eq_getElem (by rw [osR_size]; exact ht)] at e1
    rw [Array.getElem?_eq_getElem h2] at e2
    rw [Option.some.inj e2, Array.getElem_setIfInBounds (by rw [osR_size]; exact ht)]
    split
    · rename_i h3
      subst h3
      rw [if_pos (by omega)]
    · rename_i h3
      rw [Option.some.inj e1]
      by_cases h4 : t < i
      · rw [if_pos h4, if_pos (by omega)]
      · rw [if_neg h4, if_neg (by omega)]
theorem osR_one (s : S4) (i : Nat) : (osR s i).all (·.oneCell') = true := by simp [osR, Value.oneCell']
theorem osR_info (s : S4) (i : Nat) : (Tryd.prog.info? 24).map (·.size) = some (osR s i).size := by rw [osR_size]; kernel_rfl
theorem u8_wrap (a : Nat) : IntKind.u8.wrap (a : Int) = (a % 256 : Nat) := by
  simp only [IntKind.wrap, IntKind.bits, IntKind.signed]
  simp

set_option maxRecDepth 100000 in
set_option maxHeartbeats 4000000 in
theorem sum_any (R : Nat) (s : S4) (hs : s.ok) (rest : List Value) (T : TypeId) (w : World) (hR : w.heap[R]? = some (.cells (stC s ++ rest).toArray T (0, 0))) :
    Calls Tryd.prog 24 #[.pointer (some ⟨R, 0, none⟩)] w fun e w' => e = .returned (.agg (osR s 16)) ∧ Below w.heap.size w w' := by
  have HR := Lib.hid hR
  obtain ⟨w2, hw2⟩ : ∃ w2, (w.alloc (.cells #[.int .u8 0, .int .u8 0, .int .u8 0, .int .u8 0, .int .u8 0, .int .u8 0, .int .u8 0, .int .u8 0, .int .u8 0, .int .u8 0, .int .u8 0, .int .u8 0, .int .u8 0, .int .u8 0, .int .u8 0, .int .u8 0] 24)).alloc (.cells #[.int .u8 0, .int .u8 0, .int .u8 0, .int .u8 0, .int .u8 0, .int .u8 0, .int .u8 0, .int .u8 0, .int .u8 0, .int .u8 0, .int .u8 0, .int .u8 0, .int .u8 0, .int .u8 0, .int .u8 0, .int .u8 0] 24) = w2 := ⟨_, rfl⟩
  have HO : Hid (w2.heap[w.heap.size]? = some (.cells (osR s 0) 24 (0, 0))) := by
    show _ = _
    rw [← hw2]
    exact hrow_alloc (heap_alloc_last w _) _
  have HX : Hid (w2.heap[w.heap.size + 1]? = some (.cells (osR s 0) 24 (0, 0))) := by
    show _ = _
    rw [← hw2]
    have h := heap_alloc_last (w.alloc (.cells #[.int .u8 0, .int .u8 0, .int .u8 0, .int .u8 0, .int .u8 0, .int .u8 0, .int .u8 0, .int .u8 0, .int .u8 0, .int .u8 0, .int .u8 0, .int .u8 0, .int .u8 0, .int .u8 0, .int .u8 0, .int .u8 0] 24)) (.cells #[.int .u8 0, .int .u8 0, .int .u8 0, .int .u8 0, .int .u8 0, .int .u8 0, .int .u8 0, .int .u8 0, .int .u8 0, .int .u8 0, .int .u8 0, .int .u8 0, .int .u8 0, .int .u8 0, .int .u8 0, .int .u8 0] 24)
    rw [World.size_alloc] at h
    exact h
  have Hb : Hid (Below w.heap.size w w2) := by
    show Below _ _ _
    rw [← hw2]
    exact bal (bal (Below.refl _ _) _) _
  clear hR
  go_enter Tryd.func24, Tryd.ntmps24
  go_upto_region 2 with fail
  clear hw2
  go_wp2_with fail
  go_loopw [4, 5] (fun x4 i wr => ∃ k : Nat, k ≤ 16 ∧ i = .int .i64 k ∧ Hid (wr.heap[(w.heap.size + 1)]? = some (.cells (osR s k) 24 (0, 0))) ∧ Hid (wr.heap[w.heap.size]? = some (.cells (osR s 0) 24 (0, 0))) ∧ Hid (Below w.heap.size w wr)) (fun _ i _ => 16 - (intOf i).toNat)
  case atStart => exact ⟨0, by omega, rfl, HX.out, HO.out, Hb.out⟩
  case round =>
    obtain ⟨k, hk, rfl, HXk, HOk, Hbk⟩ := hrel
    by_cases hkk : k < 16
    · have hk16 : (k : Int) < 16 := by omega
      have hk0 : (0 : Int) ≤ (k : Int) := by omega
      have hRr := hrow_below HR.out Hbk.out
      have hr0 : wr.cell? ⟨R, k / 4, none⟩ = some (.int .u32 (s.g (k / 4) : Nat)) := by
        rw [cell_of_row _ _ (k / 4) _ _ _ hRr]
        have h := mixd_at s s rest (k / 4) (by omega)
        have hs : ((stC s ++ rest).toArray)[k / 4]? = some (.int .u32 (s.g (k / 4) : Nat)) := by
          rcases four (k / 4) (by omega) with e | e | e | e <;> rw [e] <;> simp [stC, S4.g]
        exact hs
      have hx0 : wr.cell? ⟨(w.heap.size + 1), k, none⟩ = some (.int .u8 0) := by
        rw [cell_of_row _ _ k _ _ _ HXk.out, osR_at s k k hkk, if_neg (by omega)]; rfl
      have hf := free_blk HXk.out k
      have Hset := Lib.hid (osR_set s k hkk)
      have hq0 : (0 : Int) ≤ (k : Int) / 4 := by omega
      have hq1 : (k : Int) / 4 < 4 := by omega
      have hqn : ((k : Int) / 4).toNat = k / 4 := by omega
      have hr1 : (0 : Int) ≤ 8 * ((k : Int) % 4) := by omega
      have hrn : (8 * ((k : Int) % 4)).toNat = 8 * (k % 4) := by omega
      have hm64 : min (8 * (k % 4)) 64 = 8 * (k % 4) := by omega
      have hm32 : min (8 * (k % 4)) 32 = 8 * (k % 4) := by omega
      have hbS : byteS s k = s.g (k / 4) / 2 ^ (8 * (k % 4)) % 256 := rfl
      have hu := u8_wrap (s.g (k / 4) / 2 ^ (8 * (k % 4)))
      rw [← hbS, Int.natCast_ediv, Int.natCast_pow, Int.cast_ofNat_Int] at hu
      generalize byteS s k = bS at *
      have hgl := g_lt s hs (k / 4)
      generalize s.g (k / 4) = q at *
      clear hbS
      go_wp2_with fail
      go_roundw
      case rel => exact ⟨k + 1, by omega, by go_num, hrow_set HXk.out Hset.out, (heap_setCell_other wr _ _ _ (by simp)).trans HOk.out, Hbk.out.setCell (p := ⟨w.heap.size + 1, k, none⟩) (Nat.le_succ _) _⟩
      case measure => simp [intOf] <;> omega
    · obtain rfl : k = 16 := by omega
      rw [show ((16 : Nat) : Int) = 16 from rfl]
      go_wp2_with (first | (refine wpList_load_row rfl 24 _ rfl (w.heap.size + 1) rfl 24 (osR s 16) (0, 0) _ HXk.out Tryd.underlying24 rfl (osR_info s 16) ?_) | (refine wpList_store_row (c := osR s 0) (c' := osR s 16) (t := 24) rfl 24 _ _ rfl w.heap.size rfl rfl HOk.out (osR_info s 16) (by rw [osR_size, osR_size]) (osR_one s 16) ?_))
      exact bodyPost_ret (results_cell_row (cs := osR s 16) (t := 24) (fr := (0, 0)) (g := w.heap.size) Tryd.results24 _ _ _ rfl (setRow_heap _ w.heap.size _ _ 24 (0, 0) HOk.out) Tryd.underlying24 rfl (osR_info s 16)) rfl ⟨rfl, Below.setRow Hbk.out (Nat.le_refl _) _⟩
end Go.Proofs.YtibhhebfenkeaaaDoor
