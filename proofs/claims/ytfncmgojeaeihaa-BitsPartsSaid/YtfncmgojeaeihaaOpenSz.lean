/-
  How much an argument's slice may hold: the form's own reach.
-/
import Derived.Test.YtfncmgojeaeihaaOpen
import Derived.SizedLaws
import Derived.Deep.Slices
namespace Go.Proofs.Ytfncmgojeaeihaa
open Go.ChangeShapes Go.WideShapes Go.ChangeAt Go.RowKit

section
variable {H : Type} {enc : TypeId × Value → H} {P : Program} {W : World} {base : Nat} {spare : Nat → Bool} {held : Bool}
theorem slice_len {t e : TypeId} (ht : P.underlying t = some (.slice e)) {A : Option Addr} {n c : Nat} {d : DataW H} {p : List MemPlace} (h : DataW.Trod enc P W base spare held t (.slice A n c) d p) : n = 0 ∨ ∃ el sp, d = .slice el sp ∧ el.length = n := by
  obtain ⟨fuel, hf⟩ := h
  rcases Go.Deep.open_slice ht hf with ⟨hcs, -⟩ | ⟨a, len, cap, m, k, D, Pl, hcs, -, -, -, -, hx, -⟩
  · simp [Value.cells] at hcs
    exact .inl hcs.2.1
  · simp [Value.cells] at hcs
    obtain ⟨-, rfl, -⟩ := hcs
    have hd := congrArg Prod.fst hx
    exact .inr ⟨_, _, hd, by simp⟩
theorem slice_sized {ts : List TypeId} {ds : List (DataW H)} (hsz : (DataW.weightsEach P ts ds).all (· ≤ reachBytes) = true) {j : Nat} {t e : TypeId} {d : DataW H} (htj : ts[j]? = some t) (hdj : ds[j]? = some d) (ht : P.underlying t = some (.slice e)) {A : Option Addr} {n c : Nat} {p : List MemPlace} (h : DataW.Trod enc P W base spare held t (.slice A n c) d p) {b : Nat} (hb : P.bytesOf e = b) : n * b ≤ 140737488355328 := by
  rcases slice_len ht h with rfl | ⟨el, sp, rfl, rfl⟩
  · simp
  · have h1 := sized_slice hsz htj hdj ht
    rw [hb] at h1
    have h2 := reachBytes_lt
    have h3 : el.length * b ≤ (el.length + sp.length) * b := Nat.mul_le_mul_right _ (Nat.le_add_right _ _)
    omega
end
end Go.Proofs.Ytfncmgojeaeihaa
