/-
  jetsamlaw11.InfoReads: of any bytes.
-/
import Derived.Test.YtikgpohoggpldaaReads
namespace Go.Proofs.Ytikgpohoggpldaa
open Go.RowKit

theorem bv_nv8 (l : List UInt8) : bv l = nv8 (l.map (·.toNat)) := by simp [bv, nv8]
theorem map_lt (l : List UInt8) : ∀ x ∈ l.map (·.toNat), x < 256 := by
  intro x hx
  obtain ⟨y, -, rfl⟩ := List.mem_map.1 hx
  exact y.toNat_lt
theorem infoReads_walk (l : List UInt8) (A : Option Addr) (c : Nat) (w : World) (hr : Rd w A (bv l)) (hc : l.length ≤ c) :
    Calls Try.prog 6 #[.slice A l.length c] w fun e w' => e = .returned (.bool true) ∧ Below w.heap.size w w' := by
  rw [bv_nv8] at hr
  have h8 := map_lt l
  have hl : l.length = (l.map (·.toNat)).length := by simp
  rw [hl] at hc ⊢
  clear hl
  generalize l.map (·.toNat) = L at *
  rcases Nat.lt_or_ge L.length 34 with h | h
  · exact reads_short L A c w h
  rcases Nat.lt_or_ge 100 L.length with h1 | h1
  · exact reads_out L A c w h1
  rcases Nat.lt_or_ge 34 L.length with h2 | h2
  · exact reads_long L A c w h2 h1
  have e : L.length = 34 := by omega
  rw [e] at hc ⊢
  exact reads_34 L h8 e A c w hr hc
end Go.Proofs.Ytikgpohoggpldaa
