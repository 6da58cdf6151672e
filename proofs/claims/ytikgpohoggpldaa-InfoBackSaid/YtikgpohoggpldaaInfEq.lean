/-
  '==' on Info, [16]uint8, Params.
-/
import Derived.Test.YtikgpohoggpldaaInfRef
import Derived.Laws.StructEq
import Derived.ChangeKeysEq
namespace Go.Proofs.Ytikgpohoggpldaa
open Go.RowKit

theorem part_int {P : Program} {w : World} {e : TypeId} {k : IntKind} (he : P.underlying e = some (.int k)) {xs : Array Value} {i : Nat} {v : Value} (hv : xs[i]? = some v) : (part e xs i).run P w = .ok v w := by
  simp [part, isAgg, run_underlying he, hv]

/-- An array of ints is equal to itself. -/
theorem items_self {P : Program} {w : World} {d : Nat} {e : TypeId} {k : IntKind} (he : P.underlying e = some (.int k)) (xs : Array Value) (hx : ∀ i, i < xs.size → ∃ z, xs[i]? = some (.int k z)) :
    ∀ l : List Nat, (∀ i ∈ l, i < xs.size) → (Op.eqItems (d + 1) e 1 xs xs l).run P w = .ok true w
  | [], _ => by simp [Op.eqItems]
  | j :: l, h => by
    obtain ⟨z, hz⟩ := hx j (h j (List.mem_cons_self ..))
    have h1 := part_int (P := P) (w := w) he hz
    have h2 := run_equalIn_int (P := P) w d e k k z z he
    have h3 := items_self (P := P) (w := w) (d := d) he xs hx l (fun i hi => h i (List.mem_cons_of_mem _ hi))
    simp only [Op.eqItems, Sem.run_bind, Nat.mul_one, h1, h2, Result.andThen_ok]
    simpa using h3

theorem arr_self {P : Program} {w : World} {d n : Nat} {t e : TypeId} {k : IntKind} (ht : P.underlying t = some (.array n e)) (he : P.underlying e = some (.int k)) (hc : P.cellsOf e = 1) {i : TypeInfo} (hi : P.info? e = some i) (xs : Array Value) (hn : xs.size = n) (hx : ∀ i, i < xs.size → ∃ z, xs[i]? = some (.int k z)) :
    (Op.equalIn (d + 2) t (.agg xs) (.agg xs)).run P w = .ok true w := by
  rw [run_equalIn_array w (d + 1) xs xs ht hi, hc]
  exact items_self he xs hx _ (fun i hi => by rw [hn]; exact List.mem_range.1 hi)

set_option maxHeartbeats 1000000 in
theorem eq_params (w : World) (d : Nat) (p0 p1 p2 : Int) : (Op.equalIn (d + 2) 23 (.agg #[.int .i64 p0, .int .i64 p1, .int .i64 p2]) (.agg #[.int .i64 p0, .int .i64 p1, .int .i64 p2])).run Try.prog w = .ok true w := by
  rw [run_equalIn_agg w (d + 1) _ _ _ (by kernel_rfl) (by kernel_rfl)]
  simp [go_sem]
theorem eq_sum (w : World) (d : Nat) (s : Nat → Int) : (Op.equalIn (d + 2) 24 (.agg #[.int .u8 (s 0), .int .u8 (s 1), .int .u8 (s 2), .int .u8 (s 3), .int .u8 (s 4), .int .u8 (s 5), .int .u8 (s 6), .int .u8 (s 7), .int .u8 (s 8), .int .u8 (s 9), .int .u8 (s 10), .int .u8 (s 11), .int .u8 (s 12), .int .u8 (s 13), .int .u8 (s 14), .int .u8 (s 15)]) (.agg #[.int .u8 (s 0), .int .u8 (s 1), .int .u8 (s 2), .int .u8 (s 3), .int .u8 (s 4), .int .u8 (s 5), .int .u8 (s 6), .int .u8 (s 7), .int .u8 (s 8), .int .u8 (s 9), .int .u8 (s 10), .int .u8 (s 11), .int .u8 (s 12), .int .u8 (s 13), .int .u8 (s 14), .int .u8 (s 15)])).run Try.prog w = .ok true w := by
  refine arr_self Try.underlying24 Try.underlying5 (by kernel_rfl) (i := Try.t5) (by kernel_rfl) _ rfl ?_
  intro i hi
  match i, hi with
  | 0, _ => exact ⟨_, rfl⟩
  | 1, _ => exact ⟨_, rfl⟩
  | 2, _ => exact ⟨_, rfl⟩
  | 3, _ => exact ⟨_, rfl⟩
  | 4, _ => exact ⟨_, rfl⟩
  | 5, _ => exact ⟨_, rfl⟩
  | 6, _ => exact ⟨_, rfl⟩
  | 7, _ => exact ⟨_, rfl⟩
  | 8, _ => exact ⟨_, rfl⟩
  | 9, _ => exact ⟨_, rfl⟩
  | 10, _ => exact ⟨_, rfl⟩
  | 11, _ => exact ⟨_, rfl⟩
  | 12, _ => exact ⟨_, rfl⟩
  | 13, _ => exact ⟨_, rfl⟩
  | 14, _ => exact ⟨_, rfl⟩
  | 15, _ => exact ⟨_, rfl⟩
  | n + 16, h => exact absurd h (by simp)
set_option maxHeartbeats 1000000 in
theorem eq_info (w : World) (p0 p1 p2 a b c d e : Int) (s : Nat → Int) : (Op.equalIn 10000 34 (.agg (ofV p0 p1 p2 a b c d e s)) (.agg (ofV p0 p1 p2 a b c d e s))).run Try.prog w = .ok true w := by
  have h1 := eq_params w 9997 p0 p1 p2
  have h2 := eq_sum w 9997 s
  rw [run_equalIn_agg w 9999 _ _ _ (by kernel_rfl) (by kernel_rfl)]
  simp [go_sem, ofV, h1, h2]
theorem eql_info (w : World) (p0 p1 p2 a b c d e : Int) (s : Nat → Int) : (binOp .eql 34 (.agg (ofV p0 p1 p2 a b c d e s)) (.agg (ofV p0 p1 p2 a b c d e s))).run Try.prog w = .ok (.bool true) w := by
  rw [run_eql_struct, eq_info]; rfl
end Go.Proofs.Ytikgpohoggpldaa
