/-
  A header that came in, opened.
-/
import Derived.Test.YtgohfbfdhdepnaaDoorOpen
import Derived.Test.YtgohfbfdhdepnaaDoorHd08
import Derived.Deep.SlicePairs
import Derived.Lib.SmallJoins
namespace Go.Proofs.YtgohfbfdhdepnaaDoor
open Go.ChangeShapes Go.WideShapes Go.ChangeAt Go.RowKit Go.Joins Go.Deep

section
variable {H : Type} {enc : TypeId × Value → H} {W : World} {base : Nat} {spare : Nat → Bool} {held : Bool}
theorem array9 {cs : Array Value} (h : cs.size = 9) : ∃ x0 x1 x2 x3 x4 x5 x6 x7 x8, cs = #[x0, x1, x2, x3, x4, x5, x6, x7, x8] := by
  obtain ⟨l⟩ := cs
  match l, h with
  | [x0, x1, x2, x3, x4, x5, x6, x7, x8], _ => exact ⟨x0, x1, x2, x3, x4, x5, x6, x7, x8, rfl⟩
theorem c_int : Tryd.prog.cellsOf 3 = 1 := by kernel_rfl
theorem c_bool : Tryd.prog.cellsOf 4 = 1 := by kernel_rfl
theorem c_hdr : Tryd.prog.cellsOf 23 = 9 := by kernel_rfl
set_option maxHeartbeats 1000000 in
theorem open_hd {r : Reach} {b0 : Nat} {v : Value} {d : DataW H} {p : List MemPlace} (hv : Value.okWide Tryd.prog W r b0 23 v) (h : DataW.Trod enc Tryd.prog W base spare held 23 v d p) :
    ∃ x : Hd, v = x.val ∧ (∀ z ∈ [x.bc, x.rc, x.m, x.dc, x.n, x.b, x.r, x.d], (Lit.int .i64 z).wf = true) := by
  obtain ⟨cs, rfl, hsz⟩ := okWide_struct Tryd.underlying23 hv
  obtain ⟨x0, x1, x2, x3, x4, x5, x6, x7, x8, rfl⟩ := array9 (hsz.trans c_hdr)
  obtain ⟨fuel, hf⟩ := h
  obtain ⟨ys, n, rfl, -, -, hl, hx⟩ := DataW.trod_struct Tryd.underlying23 hf
  have hl' : ys.length = 9 := hl
  match ys, hl' with
  | [y0, y1, y2, y3, y4, y5, y6, y7, y8], _ =>
    have g0 := hx 0 _ rfl
    have g1 := hx 1 _ rfl
    have g2 := hx 2 _ rfl
    have g3 := hx 3 _ rfl
    have g4 := hx 4 _ rfl
    have g5 := hx 5 _ rfl
    have g6 := hx 6 _ rfl
    have g7 := hx 7 _ rfl
    have g8 := hx 8 _ rfl
    clear hx hf hv
    simp only [c_bool, c_int, Value.cells, List.drop_zero, List.drop_succ_cons, List.take_succ_cons, List.take_zero, List.getElem?_cons_zero, List.getElem?_cons_succ] at g0 g1 g2 g3 g4 g5 g6 g7 g8
    obtain ⟨a0, e0, -⟩ := DataW.trod_bool Tryd.underlying4 g0
    obtain ⟨a1, e1, -, w1⟩ := DataW.trod_int Tryd.underlying3 g1
    obtain ⟨a2, e2, -, w2⟩ := DataW.trod_int Tryd.underlying3 g2
    obtain ⟨a3, e3, -, w3⟩ := DataW.trod_int Tryd.underlying3 g3
    obtain ⟨a4, e4, -, w4⟩ := DataW.trod_int Tryd.underlying3 g4
    obtain ⟨a5, e5, -, w5⟩ := DataW.trod_int Tryd.underlying3 g5
    obtain ⟨a6, e6, -, w6⟩ := DataW.trod_int Tryd.underlying3 g6
    obtain ⟨a7, e7, -, w7⟩ := DataW.trod_int Tryd.underlying3 g7
    obtain ⟨a8, e8, -, w8⟩ := DataW.trod_int Tryd.underlying3 g8
    injection e0 with e0; injection e1 with e1; injection e2 with e2; injection e3 with e3; injection e4 with e4; injection e5 with e5; injection e6 with e6; injection e7 with e7; injection e8 with e8
    subst e0; subst e1; subst e2; subst e3; subst e4; subst e5; subst e6; subst e7; subst e8
    refine ⟨⟨a0, a1, a2, a3, a4, a5, a6, a7, a8⟩, rfl, ?_⟩
    intro z hz
    simp only [List.mem_cons, List.not_mem_nil, or_false] at hz
    rcases hz with rfl | rfl | rfl | rfl | rfl | rfl | rfl | rfl <;> assumption
end
end Go.Proofs.YtgohfbfdhdepnaaDoor
