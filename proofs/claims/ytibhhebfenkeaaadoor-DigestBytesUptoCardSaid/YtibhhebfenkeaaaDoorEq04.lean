/-
  '==' on [16]uint8.
-/
import Derived.Test.YtibhhebfenkeaaaDoorFSum04
import Derived.Laws.StructEq
import Derived.ChangeKeysEq
namespace Go.Proofs.YtibhhebfenkeaaaDoor
open Go.RowKit

theorem part_int {P : Program} {w : World} {e : TypeId} {k : IntKind} (he : P.underlying e = some (.int k)) {xs : Array Value} {i : Nat} {v : Value} (hv : xs[i]? = some v) : (part e xs i).run P w = .ok v w := by
  simp [part, isAgg, run_underlying he, hv]

/-- An array of ints is equal to itself. -/
theorem items_self {P : Program} {w : World} {d : Nat} {e : TypeId} {k : IntKind} (he : P.underlying e = some (.int k)) (xs : Array Value) (hx : ∀ i, i < xs.size → ∃ z, xs[i]? = some (.int k z)) :
    ∀ l : List Nat, (∀ i ∈ l, i < xs.size) → (Op.eqItems (d + 1) e 1 xs xs l).run P w = .ok true w
  | [], _ => by simp [Op.eqItems]
  | j :: l, h => by
    obtain ⟨z, hz⟩ := hx j (h j (List.mem_cons_self ..))
    have h1 := part_int (P := P) (w := w) he hz
    have h2 := run_equalIn_int (P := P) w d e k k z z he
    have h3 := items_self (P := P) (w := w) (d := d) he xs hx l (fun i hi => h i (List.mem_cons_of_mem _ hi))
    simp only [Op.eqItems, Sem.run_bind, Nat.mul_one, h1, h2, Result.andThen_ok]
    simpa using h3

theorem arr_self {P : Program} {w : World} {d n : Nat} {t e : TypeId} {k : IntKind} (ht : P.underlying t = some (.array n e)) (he : P.underlying e = some (.int k)) (hc : P.cellsOf e = 1) {i : TypeInfo} (hi : P.info? e = some i) (xs : Array Value) (hn : xs.size = n) (hx : ∀ i, i < xs.size → ∃ z, xs[i]? = some (.int k z)) :
    (Op.equalIn (d + 2) t (.agg xs) (.agg xs)).run P w = .ok true w := by
  rw [run_equalIn_array w (d + 1) xs xs ht hi, hc]
  exact items_self he xs hx _ (fun i hi => by rw [hn]; exact List.mem_range.1 hi)


theorem eq16 (w : World) (s : S4) : (Op.equalIn 10000 24 (.agg (osR s 16)) (.agg (osR s 16))).run Tryd.prog w = .ok true w := by
  refine arr_self Tryd.underlying24 Tryd.underlying5 (by kernel_rfl) (i := Tryd.t5) (by kernel_rfl) _ (osR_size s 16) ?_
  intro i hi
  exact ⟨_, osR_at s 16 i (by rw [osR_size] at hi; exact hi)⟩
theorem eql16 (w : World) (s : S4) : (binOp .eql 24 (.agg (osR s 16)) (.agg (osR s 16))).run Tryd.prog w = .ok (.bool true) w := by
  rw [run_eql_struct, eq16]; rfl
end Go.Proofs.YtibhhebfenkeaaaDoor
