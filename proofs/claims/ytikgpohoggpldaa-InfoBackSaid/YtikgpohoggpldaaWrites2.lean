/-
  jetsamlaw11.InfoWrites: of any info.
-/
import Derived.Test.YtikgpohoggpldaaWrites
import Derived.Test.YtikgpohoggpldaaOpenInfo
namespace Go.Proofs.Ytikgpohoggpldaa
open Go.RowKit

def nOf (p0 p1 p2 mn mx mf xf tt : Int) : Nat → Int
  | 0 => p0
  | 1 => p1
  | 2 => p2
  | 3 => mn
  | 4 => mx
  | 5 => mf
  | 6 => xf
  | _ => tt
theorem infoWrites_walk (p0 p1 p2 mn mx mf xf tt : Int) (s : Nat → Int) (hs : ∀ i, i < 16 → (Lit.int .u8 (s i)).wf = true) (w : World) :
    Calls Try.prog 7 #[.agg (ofV p0 p1 p2 mn mx mf xf tt s)] w fun e w' => e = .returned (.bool true) ∧ Below w.heap.size w w' := by
  have h : ∀ i, i < 16 → 0 ≤ s i ∧ s i < 256 := fun i hi => by have := u8_bounds (hs i hi); omega
  cases hm : mayN (nOf p0 p1 p2 mn mx mf xf tt) with
  | false => exact writes_no (nOf p0 p1 p2 mn mx mf xf tt) s hm w
  | true => exact writes_ok (nOf p0 p1 p2 mn mx mf xf tt) s hm h w
end Go.Proofs.Ytikgpohoggpldaa
