/-
  jetsamref11.fields and Read.
-/
import Derived.Test.YtikgpohoggpldaaRead3
namespace Go.Proofs.Ytikgpohoggpldaa
open Go.RowKit

def fT : Nat → Nat
  | 0 => 3
  | 1 => 4
  | 2 => 5
  | 3 => 6
  | 4 => 0
  | 5 => 1
  | 6 => 2
  | _ => 7
def fB : Nat → Nat
  | 0 => 16
  | 1 => 16
  | 2 => 24
  | 3 => 24
  | 4 => 20
  | 5 => 3
  | 6 => 5
  | _ => 36
def fM : Nat → Nat
  | 5 => 1
  | 6 => 1
  | _ => 0
def tabV : Array Value := #[.int .i64 3, .int .i64 16, .int .i64 0, .int .i64 4, .int .i64 16, .int .i64 0, .int .i64 5, .int .i64 24, .int .i64 0, .int .i64 6, .int .i64 24, .int .i64 0, .int .i64 0, .int .i64 20, .int .i64 0, .int .i64 1, .int .i64 3, .int .i64 1, .int .i64 2, .int .i64 5, .int .i64 1, .int .i64 7, .int .i64 36, .int .i64 0]
theorem tab_at : ∀ k, k < 8 → tabV[k * 3]? = some (.int .i64 (fT k : Nat)) ∧ tabV[k * 3 + 1]? = some (.int .i64 (fB k : Nat)) ∧ tabV[k * 3 + 2]? = some (.int .i64 (fM k : Nat))
  | 0, _ => ⟨rfl, rfl, rfl⟩
  | 1, _ => ⟨rfl, rfl, rfl⟩
  | 2, _ => ⟨rfl, rfl, rfl⟩
  | 3, _ => ⟨rfl, rfl, rfl⟩
  | 4, _ => ⟨rfl, rfl, rfl⟩
  | 5, _ => ⟨rfl, rfl, rfl⟩
  | 6, _ => ⟨rfl, rfl, rfl⟩
  | 7, _ => ⟨rfl, rfl, rfl⟩
  | k + 8, h => by omega

theorem fields_any (w : World) :
    Calls Try.prog 26 #[] w fun e w' => e = .returned (.slice (some ⟨w.heap.size, 0, none⟩) 8 8) ∧ w' = w.alloc (.cells tabV 62) := by
  go_enter Try.func26, Try.ntmps26
  go_wp2_with fail
  go_ret
  exact ⟨rfl, rfl⟩

def RfAt (w : World) (g : Nat) (n s : Nat → Int) : Prop := w.heap[g]? = some (.cells (ofV (n 0) (n 1) (n 2) (n 3) (n 4) (n 5) (n 6) (n 7) s) 46 (0, 0))
def upd (n : Nat → Int) (j : Nat) (z : Int) : Nat → Int := fun i => if i = j then z else n i
theorem RfAt.cell {w : World} {g : Nat} {n s : Nat → Int} (h : RfAt w g n s) (i : Nat) (v : Value) (hv : (ofV (n 0) (n 1) (n 2) (n 3) (n 4) (n 5) (n 6) (n 7) s)[i]? = some v) : w.cell? ⟨g, i, none⟩ = some v := by
  rw [cell_of_row w g i _ _ _ h]; exact hv
theorem RfAt.fr {w : World} {g : Nat} {n s : Nat → Int} (h : RfAt w g n s) (i : Nat) : w.frozen? ⟨g, i, none⟩ = false := frozen_of_row w g i _ _ h
theorem RfAt.cellN {w : World} {g : Nat} {n s : Nat → Int} (h : RfAt w g n s) : ∀ j, j < 8 → w.cell? ⟨g, j, none⟩ = some (.int .i64 (n j))
  | 0, _ => h.cell 0 _ rfl
  | 1, _ => h.cell 1 _ rfl
  | 2, _ => h.cell 2 _ rfl
  | 3, _ => h.cell 3 _ rfl
  | 4, _ => h.cell 4 _ rfl
  | 5, _ => h.cell 5 _ rfl
  | 6, _ => h.cell 6 _ rfl
  | 7, _ => h.cell 7 _ rfl
  | k + 8, h => by omega
theorem RfAt.cellS {w : World} {g : Nat} {n s : Nat → Int} (h : RfAt w g n s) : ∀ j, j < 16 → w.cell? ⟨g, 8 + j, none⟩ = some (.int .u8 (s j))
  | 0, _ => h.cell 8 _ rfl
  | 1, _ => h.cell 9 _ rfl
  | 2, _ => h.cell 10 _ rfl
  | 3, _ => h.cell 11 _ rfl
  | 4, _ => h.cell 12 _ rfl
  | 5, _ => h.cell 13 _ rfl
  | 6, _ => h.cell 14 _ rfl
  | 7, _ => h.cell 15 _ rfl
  | 8, _ => h.cell 16 _ rfl
  | 9, _ => h.cell 17 _ rfl
  | 10, _ => h.cell 18 _ rfl
  | 11, _ => h.cell 19 _ rfl
  | 12, _ => h.cell 20 _ rfl
  | 13, _ => h.cell 21 _ rfl
  | 14, _ => h.cell 22 _ rfl
  | 15, _ => h.cell 23 _ rfl
  | k + 16, h => by omega
theorem RfAt.setN {w : World} {g : Nat} {n s : Nat → Int} (h : RfAt w g n s) (z : Int) : ∀ j, j < 8 → RfAt (w.setCell ⟨g, j, none⟩ (.int .i64 z)) g (upd n j z) s
  | 0, _ => hrow_set h rfl
  | 1, _ => hrow_set h rfl
  | 2, _ => hrow_set h rfl
  | 3, _ => hrow_set h rfl
  | 4, _ => hrow_set h rfl
  | 5, _ => hrow_set h rfl
  | 6, _ => hrow_set h rfl
  | 7, _ => hrow_set h rfl
  | k + 8, h => by omega
theorem RfAt.setS {w : World} {g : Nat} {n s : Nat → Int} (h : RfAt w g n s) (z : Int) : ∀ j, j < 16 → RfAt (w.setCell ⟨g, 8 + j, none⟩ (.int .u8 z)) g n (upd s j z)
  | 0, _ => hrow_set h rfl
  | 1, _ => hrow_set h rfl
  | 2, _ => hrow_set h rfl
  | 3, _ => hrow_set h rfl
  | 4, _ => hrow_set h rfl
  | 5, _ => hrow_set h rfl
  | 6, _ => hrow_set h rfl
  | 7, _ => hrow_set h rfl
  | 8, _ => hrow_set h rfl
  | 9, _ => hrow_set h rfl
  | 10, _ => hrow_set h rfl
  | 11, _ => hrow_set h rfl
  | 12, _ => hrow_set h rfl
  | 13, _ => hrow_set h rfl
  | 14, _ => hrow_set h rfl
  | 15, _ => hrow_set h rfl
  | k + 16, h => by omega
theorem RfAt.lt {w : World} {g : Nat} {n s : Nat → Int} (h : RfAt w g n s) : g < w.heap.size := by
  rcases Nat.lt_or_ge g w.heap.size with h1 | h1
  · exact h1
  · unfold RfAt at h; rw [Array.getElem?_eq_none h1] at h; cases h

def bitN (l : List Nat) (i : Nat) : Nat := l.getD (i / 8) 0 / 2 ^ (7 - i % 8) % 2
def bitsN (l : List Nat) (a : Nat) : Nat → Nat
  | 0 => 0
  | c + 1 => 2 * bitsN l a c + bitN l (a + c)
theorem bitsN_lt (l : List Nat) (a : Nat) : ∀ c, bitsN l a c < 2 ^ c
  | 0 => by simp [bitsN]
  | c + 1 => by
    have h := bitsN_lt l a c
    have h2 : bitN l (a + c) < 2 := Nat.mod_lt _ (by omega)
    rw [bitsN, Nat.pow_succ]
    omega
def stK : Nat → Nat
  | 0 => 0
  | 1 => 16
  | 2 => 32
  | 3 => 56
  | 4 => 80
  | 5 => 100
  | 6 => 103
  | 7 => 108
  | _ => 144
def nK (l : List Nat) : Nat → Nat → Int
  | 0 => fun _ => 0
  | k + 1 => upd (nK l k) (fT k) ((bitsN l (stK k) (fB k) + fM k : Nat) : Int)
def sK (l : List Nat) : Nat → Nat → Int
  | 0 => fun _ => 0
  | k + 1 => upd (sK l k) k (rS l k)
end Go.Proofs.Ytikgpohoggpldaa
