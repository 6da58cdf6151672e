/-
  jetsamlaw11.InfoBack: of any info, any bytes.
-/
import Derived.Test.YtikgpohoggpldaaBack11
import Derived.Test.YtikgpohoggpldaaReads2
namespace Go.Proofs.Ytikgpohoggpldaa
open Go.RowKit

theorem infoBack_walk (p0 p1 p2 mn mx mf xf tt : Int) (s : Nat → Int) (hs : ∀ i, i < 16 → (Lit.int .u8 (s i)).wf = true) (l : List UInt8) (A : Option Addr) (c : Nat) (w : World) (hr : Rd w A (bv l)) (hc : l.length ≤ c) :
    Calls Try.prog 8 #[.agg (ofV p0 p1 p2 mn mx mf xf tt s), .slice A l.length c] w fun e w' => e = .returned (.bool true) ∧ Below w.heap.size w w' := by
  have h : ∀ i, i < 16 → 0 ≤ s i ∧ s i < 256 := fun i hi => by have := u8_bounds (hs i hi); omega
  rw [bv_nv8] at hr
  have h8 := map_lt l
  have hl : l.length = (l.map (·.toNat)).length := by simp
  rw [hl] at hc ⊢
  clear hl
  generalize l.map (·.toNat) = L at *
  rcases Nat.lt_or_ge 100 L.length with h1 | h1
  · exact back_out _ L A c w h1
  cases hm : mayN (nOf p0 p1 p2 mn mx mf xf tt) with
  | false => exact back_no (nOf p0 p1 p2 mn mx mf xf tt) s hm L h8 A c w hr hc h1
  | true => exact back_ok (nOf p0 p1 p2 mn mx mf xf tt) s hm h L h8 A c w hr hc h1
end Go.Proofs.Ytikgpohoggpldaa
