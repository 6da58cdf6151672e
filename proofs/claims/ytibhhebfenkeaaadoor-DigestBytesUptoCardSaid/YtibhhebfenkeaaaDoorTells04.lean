/-
  jetsamlaw04.DigestTells: its walk.
-/
import Derived.Test.YtibhhebfenkeaaaDoorRSum04
import Derived.Test.YtibhhebfenkeaaaDoorAw04
namespace Go.Proofs.YtibhhebfenkeaaaDoor
open Go.RowKit

theorem BZZ.one {w : World} {b : Nat} {l : List UInt8} {v : Value} {o : Array Value} {T : TypeId} (h : w.heap[b]? = some (.cells #[v] T (0, 0))) (hv : BZ w v l) : BZZ w (some ⟨b, 0, none⟩) [l] := by
  refine ⟨[v], rfl, fun j u hu => ⟨_, _, rfl, ?_⟩, fun j x y hx hy => ?_⟩
  · rw [cell_of_row _ _ _ _ _ _ h, Nat.zero_add]; simpa using hu
  · match j with
    | 0 => simp at hx hy; subst hx hy; exact hv
set_option maxRecDepth 100000 in
set_option maxHeartbeats 4000000 in
theorem tells_walk (l : List UInt8) (A : Option Addr) (c : Nat) (w : World) (hr : Rd w A (bv l)) (hlc : l.length ≤ c) (hnn : A = none → c = 0) (ht : Tabs w) :
    Calls Tryd.prog 3 #[.slice A l.length c] w fun e w' => e = .returned (.bool true) ∧ Below w.heap.size w w' := by
  have HT := Lib.hid ht
  clear ht
  by_cases h1 : (l.length : Int) > 600
  · go_enter Tryd.func3, Tryd.ntmps3
    go_wp2_with fail
    refine (awake_any _ HT.out).mono ?_
    rintro e w9 ⟨rfl, hb9⟩
    go_wp2_with fail
    go_ret
    exact ⟨rfl, hb9⟩
  have hl6 : l.length ≤ 600 := by omega
  have Hb1 : Hid (Below w.heap.size w (w.alloc (.cells #[.slice A l.length c] 22))) := bal (Below.refl _ _) _
  have hrow : (w.alloc (.cells #[.slice A l.length c] 22)).heap[w.heap.size]? = some (.cells #[.slice A l.length c] 22 (0, 0)) := heap_alloc_last w _
  have HZ : Hid (BZZ (w.alloc (.cells #[.slice A l.length c] 22)) (some ⟨w.heap.size, 0, none⟩) [l]) := BZZ.one (o := #[]) hrow ⟨A, c, rfl, hlc, hr.alloc _, hnn⟩
  have HR1 := Lib.hid (hr.alloc (.cells #[.slice A l.length c] 22))
  have HF := Lib.hid (FSum_any [l] (some ⟨w.heap.size, 0, none⟩) 1 _ HZ.out (by simp; omega) (by simp) (HT.out.below Hb1.out))
  rw [show [l].flatten = l by simp] at HF
  have HS := Lib.hid (fun W (hW : Below (w.alloc (.cells #[.slice A l.length c] 22)).heap.size (w.alloc (.cells #[.slice A l.length c] 22)) W) => RSum_any l A c W (HR1.out.below hW) hnn (by omega))
  clear hr hrow HZ HR1 hlc hnn
  go_enter Tryd.func3, Tryd.ntmps3
  go_wp2_with fail
  generalize w.alloc (.cells #[.slice A l.length c] 22) = w1 at *
  refine HF.out.mono ?_
  rintro e w2 ⟨rfl, hb2⟩
  have HS2 := Lib.hid (HS.out w2 hb2)
  have Hb2 := Lib.hid (bnext Hb1.out hb2)
  clear HS HF hb2
  go_wp2_with fail
  refine HS2.out.mono ?_
  rintro e w3 ⟨rfl, hb3⟩
  have Hb3 := Lib.hid (bnext Hb2.out hb3)
  clear HS2 hb3
  go_wp2_with (refine wpList_plain rfl fun K hK => wp_bin .eql 24 _ _ _ rfl rfl rfl (by kernel_rfl) (eql16 _ _) (hK _ _ ?_))
  refine (awake_any _ (HT.out.below Hb3.out)).mono ?_
  rintro e w9 ⟨rfl, hb9⟩
  have hb10 := bnext Hb3.out hb9
  go_wp2_with fail
  go_ret
  exact ⟨rfl, hb10⟩
end Go.Proofs.YtibhhebfenkeaaaDoor
