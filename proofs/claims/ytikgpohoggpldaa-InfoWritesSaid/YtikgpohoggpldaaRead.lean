/-
  info.Read: the info that bytes are.
-/
import Derived.Test.YtikgpohoggpldaaHeadT
namespace Go.Proofs.Ytikgpohoggpldaa
open Go.RowKit

def rMn (l : List Nat) : Nat := natN (l.take 2)
def rMx (l : List Nat) : Nat := natN ((l.drop 2).take 2)
def rMf (l : List Nat) : Nat := natN ((l.drop 4).take 3)
def rXf (l : List Nat) : Nat := natN ((l.drop 7).take 3)
def rR (l : List Nat) : Nat := natN ((l.drop 10).take 8)
def rP0 (l : List Nat) : Nat := rR l / 17592186044416
def rP1 (l : List Nat) : Nat := rR l / 2199023255552 % 8 + 1
def rP2 (l : List Nat) : Nat := rR l / 68719476736 % 32 + 1
def rTt (l : List Nat) : Nat := rR l % 68719476736
def rS (l : List Nat) (i : Nat) : Int := (l.getD (18 + i) 0 : Nat)
def rV (l : List Nat) : Array Value := ofV (rP0 l) (rP1 l) (rP2 l) (rMn l) (rMx l) (rMf l) (rXf l) (rTt l) (rS l)
def rMay (l : List Nat) : Bool := mayB (rP0 l) (rP1 l) (rP2 l) (rMn l) (rMx l) (rMf l) (rXf l) (rTt l)
def zeroV : Array Value := ofV 0 0 0 0 0 0 0 0 fun _ => 0

theorem natN_acc : ∀ (l : List Nat), (∀ x ∈ l, x < 256) → ∀ a : Nat, l.foldl (fun n x => n * 256 + x) a < (a + 1) * 256 ^ l.length
  | [], _, a => by simp
  | x :: l, h, a => by
    have h1 := natN_acc l (fun y hy => h y (by simp [hy])) (a * 256 + x)
    have h2 := h x (by simp)
    rw [List.foldl_cons, List.length_cons, Nat.pow_succ]
    have h3 : (a * 256 + x + 1) * 256 ^ l.length ≤ (a + 1) * (256 ^ l.length * 256) := by
      rw [Nat.mul_comm (256 ^ l.length) 256, ← Nat.mul_assoc]
      exact Nat.mul_le_mul_right _ (by omega)
    omega
theorem natN_lt (l : List Nat) (h : ∀ x ∈ l, x < 256) : natN l < 256 ^ l.length := by have := natN_acc l h 0; simpa [natN] using this
theorem number_still (l : List Nat) (hl8 : ∀ x ∈ l, x < 256) (A : Option Addr) (c n : Nat) (w : World) (hr : Rd w A (nv8 l)) (hlen : l.length = n) (hn : n ≤ 100) (z : Int) (hz : wrap64 (natN l : Nat) = z) :
    Calls Try.prog 25 #[.slice A n c] w fun e w' => e = .returned (.int .i64 z) ∧ w' = w := by
  subst hlen hz; exact number_any l hl8 A c w hr (by omega)

theorem results_row_tmp {P : Program} {fn : Func} {p u : Tmp} {ty : TypeId} (h : fn.results = #[.cell p ty, .tmp u]) (tmps : Array Value) (w : World) {g : Nat} {t : TypeId} {cs : Array Value} {fr : Nat × Nat} (v : Value) {d : TypeDesc}
    (hp : tmps.getD p undef = .pointer (some ⟨g, 0, none⟩)) (hv : tmps.getD u undef = v) (hg : w.heap[g]? = some (.cells cs t fr))
    (hu : P.underlying ty = some d) (hd : (match d with | .struct _ | .array _ _ => true | _ => false) = true) (hi : (P.info? ty).map (·.size) = some cs.size) :
    (results fn tmps).run P w = .ok (.tuple #[.agg cs, v]) w := by
  rw [results_cell_tmp h, hp, hv]
  simp [asAddr, Result.andThen, run_loadVar_row w g t ty cs fr d hg hu hd hi]

set_option maxHeartbeats 400000 in
theorem read_short (l : List Nat) (hl : l.length < 34) (A : Option Addr) (c : Nat) (w : World) :
    Calls Try.prog 14 #[.slice A l.length c] w fun e w' => e = .returned (.tuple #[.agg zeroV, .int .i64 11]) ∧ Below w.heap.size w w' := by
  generalize l.length = n at *
  go_enter Try.func14, Try.ntmps14
  go_upto_region 2 with fail
  apply wp_region_lit
  go_step
  go_step
  go_step
  refine wpList_store_new rfl 34 _ _ rfl _ rfl rfl rfl (by kernel_rfl) (by rfl) (ofV_one 0 0 0 0 0 0 0 0 fun _ => 0) ?_
  intro w3 hw3
  have hR : w3.heap[w.heap.size]? = some (.cells zeroV 34 (0, 0)) := by rw [← hw3]; exact heap_alloc_last w _
  have hb : Below w.heap.size w w3 := by rw [← hw3]; repeat (first | exact Below.refl _ _ | assumption | refine below_drewN ?_ _ | refine Below.drew ?_ | refine Below.alloc ?_ (Nat.le_refl _) _ | refine bal ?_ _ | refine bnext ?_ (by assumption))
  clear hw3
  go_wp2_with fail
  exact bodyPost_ret (results_row_tmp Try.results14 _ _ _ rfl rfl hR Try.underlying34 rfl (by kernel_rfl)) rfl ⟨rfl, hb⟩
set_option maxHeartbeats 400000 in
theorem read_long (l : List Nat) (hl : 34 < l.length) (A : Option Addr) (c : Nat) (w : World) :
    Calls Try.prog 14 #[.slice A l.length c] w fun e w' => e = .returned (.tuple #[.agg zeroV, .int .i64 12]) ∧ Below w.heap.size w w' := by
  generalize l.length = n at *
  go_enter Try.func14, Try.ntmps14
  go_upto_region 4 with fail
  apply wp_region_lit
  go_step
  go_step
  go_step
  refine wpList_store_new rfl 34 _ _ rfl _ rfl rfl rfl (by kernel_rfl) (by rfl) (ofV_one 0 0 0 0 0 0 0 0 fun _ => 0) ?_
  intro w3 hw3
  have hR : w3.heap[w.heap.size]? = some (.cells zeroV 34 (0, 0)) := by rw [← hw3]; exact heap_alloc_last w _
  have hb : Below w.heap.size w w3 := by rw [← hw3]; repeat (first | exact Below.refl _ _ | assumption | refine below_drewN ?_ _ | refine Below.drew ?_ | refine Below.alloc ?_ (Nat.le_refl _) _ | refine bal ?_ _ | refine bnext ?_ (by assumption))
  clear hw3
  go_wp2_with fail
  exact bodyPost_ret (results_row_tmp Try.results14 _ _ _ rfl rfl hR Try.underlying34 rfl (by kernel_rfl)) rfl ⟨rfl, hb⟩
end Go.Proofs.Ytikgpohoggpldaa
