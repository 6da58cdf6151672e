/-
  burst.Only of a nil closure; what the law remembers.
-/
import Derived.Test.YticfmhmkgcdhgaaBo33
import Derived.Test.YticfmhmkgcdhgaaBo18
import Derived.Test.YticfmhmkgcdhgaaBo24
set_option linter.unusedSimpArgs false
set_option linter.unusedVariables false
namespace Go.Proofs.Yticfmhmkgcdhgaa
open Go.RowKit

theorem run_eql_nil_func {P : Program} (w : World) {t : TypeId} {ps rs : Array TypeId} {b : Bool} (ht : P.underlying t = some (.func ps rs b)) :
    (binOp .eql t .nilFunc .nilFunc).run P w = .ok (.bool true) w := by
  have h : ∀ d : Nat, (Op.equalIn (d + 1) t .nilFunc .nilFunc).run P w = .ok true w := fun d => by
    simp [Op.equalIn, run_underlying ht]
  simp only [binOp]
  simp [Op.equal, Op.maxDepth, h 9999]
theorem Only_nil (A : Option Addr) (n c : Nat) (most : Int) (w : World) : Calls Try.prog 25 #[.slice A n c, .int .i64 most, .nilFunc] w fun e w' => e = .returned (.tuple #[.agg zB, .slice none 0 0, .int .i64 1]) ∧ Below w.heap.size w w' := by
  have hq := fun W => run_eql_nil_func (P := Try.prog) W (t := 48) Try.underlying48
  go_enter Try.func25, Try.ntmps25
  go_wp2_with fail
  refine bodyPost_ret (v := .tuple #[.agg zB, .slice none 0 0, .int .i64 1]) (by simp [results, Try.results25, go_sem, zB]) rfl ⟨rfl, ?_⟩
  repeat (first | exact Below.refl _ _ | assumption | refine below_drewN ?_ _ | refine Below.drew ?_ | refine Below.alloc ?_ (Nat.le_refl _) _ | refine bal ?_ _ | refine bnext ?_ (by assumption))
theorem Only_any (f : Nat) (hf : okFs f) (bs : List UInt8) (A : Option Addr) (c : Nat) (most : Int) (w : World) (hr : Rd w A (bv bs)) (hl : bs.length ≤ 240) (hn : A = none → bs.length = 0 ∧ c = 0) :
    Calls Try.prog 25 #[.slice A bs.length c, .int .i64 most, .func (.func f) #[] #[]] w fun e w' => ∃ x v en, e = .returned (.tuple #[x, v, .int .i64 en]) ∧
      OnlyR f bs (allH (8 * bs.length) (crc16 0 bs) most) x v en w' ∧ Below w.heap.size w w' := (callsIn_wide (n := 3)).1 (Only_in f hf bs A c most w hr hl hn)
/-- The burst that was found last. -/
def wantC {M : Nat} (H : List (BX M)) : Array Value := match H.getLast? with | none => zB | some y => (cellX y.1).toArray
theorem wantC_form {M : Nat} (H : List (BX M)) : ∃ a n p : Int, wantC H = #[.int .i64 a, .int .i64 n, .int .i64 p] := by
  unfold wantC
  split
  · exact ⟨0, 0, 0, rfl⟩
  · exact ⟨_, _, _, rfl⟩
/-- What it made. -/
def wantO (bs : List UInt8) (H : List (BX (8 * bs.length))) (v : Value) (W : World) : Prop := match H.getLast? with | none => v = .slice none 0 0 | some y => ∃ A c, v = .slice A bs.length c ∧ bs.length ≤ c ∧ Rd W A (bv (outB bs y.1))
theorem wantO.below {bs : List UInt8} {H : List (BX (8 * bs.length))} {v : Value} {W W' : World} (h : wantO bs H v W) (hb : Below W.heap.size W W') : wantO bs H v W' := by
  unfold wantO at *
  split <;> rename_i e
  · rw [e] at h; exact h
  · rw [e] at h
    obtain ⟨A, c, e1, e2, e3⟩ := h
    exact ⟨A, c, e1, e2, e3.below hb⟩
end Go.Proofs.Yticfmhmkgcdhgaa
