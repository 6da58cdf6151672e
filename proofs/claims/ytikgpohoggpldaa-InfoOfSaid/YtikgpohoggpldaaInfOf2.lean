/-
  info.Of of any pieces: what the reference says.
-/
import Derived.Test.YtikgpohoggpldaaInfNil
import Derived.Test.YtikgpohoggpldaaInfLaw
namespace Go.Proofs.Ytikgpohoggpldaa
open Go.RowKit

def ofR (p0 p1 p2 : Int) (s : Nat → Int) (l : List (Int × Int)) : Array Value :=
  ofV p0 p1 p2 (mnR l.length (bk l) l.length) (mxP (bk l) l.length) (knI (mfR (by' l) l.length)) (knI (xfP (by' l) l.length)) (ttP (bk l) l.length) s
theorem Of_ref (p0 p1 p2 : Int) (s : Nat → Int) (l : List (Int × Int)) (A : Option Addr) (c : Nat) (w : World) (hr : RdP w A l) (hc : l.length ≤ c) (hf : fewB l = true) :
    Calls Try.prog 12 #[.agg #[.int .i64 p0, .int .i64 p1, .int .i64 p2], .agg #[.int .u8 (s 0), .int .u8 (s 1), .int .u8 (s 2), .int .u8 (s 3), .int .u8 (s 4), .int .u8 (s 5), .int .u8 (s 6), .int .u8 (s 7), .int .u8 (s 8), .int .u8 (s 9), .int .u8 (s 10), .int .u8 (s 11), .int .u8 (s 12), .int .u8 (s 13), .int .u8 (s 14), .int .u8 (s 15)], .slice A l.length c] w fun e w' => e = .returned (.agg (ofR p0 p1 p2 s l)) ∧ Below w.heap.size w w' := by
  obtain ⟨h1, h2⟩ := (fewB_iff l).1 hf
  rcases Nat.eq_zero_or_pos l.length with h | h
  · obtain rfl := List.eq_nil_of_length_eq_zero h
    exact Of_nil p0 p1 p2 s A c w
  · unfold ofR
    rw [mnR_eq _ _ h, mfR_eq _ _ h]
    exact Of_any p0 p1 p2 s l A c w hr hc h1 h2 h
end Go.Proofs.Ytikgpohoggpldaa
