/-
  What a Reader answers where a Writer's calls stand: plain; the list of calls, read.
-/
import Derived.Test.YtfncmgojeaeihaaBackC01
namespace Go.Proofs.Ytfncmgojeaeihaa
open Go.RowKit

theorem do0 {l : List UInt8} {t : Nat} {n v : Int} (hs : Stands l t (code ⟨0, n, v⟩)) (h : ptE n v = 0) : tkE n (8 * l.length - t) = 0 ∧ ((tkV l t n : Nat) : Int) = v ∧ tkT l t n = t + (code ⟨0, n, v⟩).length := by
  have hc : code ⟨0, n, v⟩ = vb v.toNat n.toNat := rfl
  rw [hc] at hs ⊢
  have hl := hs.1
  rw [vb_length] at hl ⊢
  unfold ptE at h
  split at h
  · cases h
  · rename_i h1
    split at h
    · cases h
    · rename_i h2
      have hE : tkE n (8 * l.length - t) = 0 := by rw [tkE, if_neg h1, if_neg (by omega)]
      refine ⟨hE, ?_, by rw [tkT, if_pos hE]⟩
      rw [tkV, if_pos hE]
      have hv : v.toNat < 2 ^ n.toNat := by
        have e : ((2 : Int) ^ n.toNat) = ((2 ^ n.toNat : Nat) : Int) := by simp
        rw [e] at h2
        generalize (2 : Nat) ^ n.toNat = K at *
        omega
      rw [read_put hs hv]
      omega
theorem do1 {l : List UInt8} {t : Nat} {n v : Int} (hs : Stands l t (code ⟨1, n, v⟩)) (h : swE n v = 0) : tkE n (8 * l.length - t) = 0 ∧ sdV l t n = v ∧ tkT l t n = t + (code ⟨1, n, v⟩).length := by
  have hc : code ⟨1, n, v⟩ = vb (v % 2 ^ n.toNat).toNat n.toNat := rfl
  rw [hc] at hs ⊢
  have hl := hs.1
  rw [vb_length] at hl ⊢
  unfold swE at h
  split at h
  · cases h
  · rename_i h1
    split at h
    · cases h
    · rename_i h2
      have hE : tkE n (8 * l.length - t) = 0 := by rw [tkE, if_neg h1, if_neg (by omega)]
      refine ⟨hE, ?_, by rw [tkT, if_pos hE]⟩
      rw [sdV, if_pos hE]
      obtain ⟨k, hk⟩ : ∃ k : Nat, n = k := ⟨n.toNat, by omega⟩
      subst hk
      cases k with
      | zero =>
        have hv : v = 0 := by
          rcases Int.decEq v 0 with h3 | h3
          · exact absurd (.inl ⟨rfl, h3⟩) h2
          · exact h3
        rw [hv]; rfl
      | succ k =>
        refine read_signed (k := k) hs ?_ ?_
        · rcases (Int.lt_or_le v (-2 ^ k)) with h3 | h3
          · exact absurd (.inr ⟨by omega, .inl (by simpa using h3)⟩) h2
          · exact h3
        · rcases (Int.lt_or_le v (2 ^ k)) with h3 | h3
          · exact h3
          · exact absurd (.inr ⟨by omega, .inr (by simpa using h3)⟩) h2
theorem do2 {l : List UInt8} {t : Nat} {n v : Int} (hs : Stands l t (code ⟨2, n, v⟩)) (h : uwE v = 0) : unE l t = 0 ∧ ((unV l t : Nat) : Int) = v ∧ unT l t = t + (code ⟨2, n, v⟩).length := by
  have hc : code ⟨2, n, v⟩ = zb v.toNat ++ [1] := rfl
  rw [hc] at hs ⊢
  obtain ⟨h1, h2⟩ := read_unary hs
  unfold uwE at h
  split at h
  · cases h
  · rename_i h3
    rw [unE, unV, unT, h1, if_pos h2, if_pos h2, if_pos h2]
    refine ⟨rfl, by omega, ?_⟩
    simp [zb_length]; omega
theorem do3 {l : List UInt8} {t : Nat} {n : Int} (hs : Stands l t (code ⟨3, n, (alN t : Nat)⟩)) : alE l t = 0 ∧ alV l t = alN t ∧ alT l t = t + (code ⟨3, n, (alN t : Nat)⟩).length := by
  have hc : code ⟨3, n, (alN t : Nat)⟩ = zb (alN t) := by simp [code]
  rw [hc] at hs ⊢
  have h := sg_zb hs
  rw [alE, alV, alT, if_pos h, if_pos h, if_pos h, zb_length]
  exact ⟨rfl, rfl, rfl⟩

theorem cellsT_get : ∀ (l : List T3) (j : Nat) (x : T3), l[j]? = some x → (cellsT l)[j * 3]? = some (.int .i64 x.a) ∧ (cellsT l)[j * 3 + 1]? = some (.int .i64 x.n) ∧ (cellsT l)[j * 3 + 2]? = some (.int .i64 x.v)
  | [], j, x, h => by simp at h
  | y :: l, 0, x, h => by
    simp at h; subst h
    exact ⟨rfl, rfl, rfl⟩
  | y :: l, j + 1, x, h => by
    obtain ⟨h0, h1, h2⟩ := cellsT_get l j x (by simpa using h)
    have e : ∀ r, (cellsT (y :: l))[(j + 1) * 3 + r]? = (cellsT l)[j * 3 + r]? := by
      intro r
      show ([Value.int .i64 y.a, .int .i64 y.n, .int .i64 y.v] ++ cellsT l)[(j + 1) * 3 + r]? = _
      rw [List.getElem?_append_right (by simp; omega)]
      congr 1
      simp; omega
    exact ⟨(e 0).trans h0, (e 1).trans h1, (e 2).trans h2⟩
theorem own_rdT {w : World} {B : Nat} {e : TypeId} {v : Value} {l : List T3} (h : w.ownsRow B e 3 v l.length (cellsT l)) : ∃ A c, v = .slice A l.length c ∧ l.length ≤ c ∧ RdT w A l ∧ ∀ k o, A = some ⟨k, o, none⟩ → k < w.heap.size := by
  rcases h.2 with ⟨rfl, h0⟩ | ⟨g, cap, cur, rfl, hb, hg, hn, hm, hs, ht⟩
  · have hl : l.length = 0 := by omega
    have : l = [] := List.eq_nil_of_length_eq_zero hl
    subst this
    exact ⟨none, 0, rfl, Nat.le_refl _, RdT.nil _ _, fun k o h => by cases h⟩
  · refine ⟨some ⟨g, 0, none⟩, cap, rfl, hn, fun j x hx => ?_, fun k o h => ?_⟩
    · obtain ⟨h0, h1, h2⟩ := cellsT_get l j x hx
      have c0 := h.cells (g := g) rfl _ _ h0
      have c1 := h.cells (g := g) rfl _ _ h1
      have c2 := h.cells (g := g) rfl _ _ h2
      have ea : ∀ m, (⟨g, 0, none⟩ : Addr).add m = ⟨g, 0 + m, none⟩ := by intro m; unfold Addr.add; split <;> simp_all
      rw [ea] at c0 c1 c2
      exact ⟨g, 0, rfl, c0, c1, c2⟩
    · injection h with h
      injection h with h1 h2
      subst h1
      exact (Array.getElem?_eq_some_iff.1 hg).1
theorem RdT.fr {S : Nat → Prop} {a b : World} {A : Option Addr} {l : List T3} (h : RdT a A l) (f : Fr S a b) (hs : ∀ k o, A = some ⟨k, o, none⟩ → ¬ S k) : RdT b A l := by
  intro j x hx
  obtain ⟨k, o, rfl, h0, h1, h2⟩ := h j x hx
  have := hs k o rfl
  exact ⟨k, o, rfl, f.cell h0 this, f.cell h1 this, f.cell h2 this⟩
theorem Wtr.lt {w : World} {R : Nat} {bs : List Nat} {u : Value} (h : Wtr w R bs u) : ∀ k, WS R u k → k < w.heap.size := by
  intro k hk
  rcases hk with rfl | hk
  · exact (Array.getElem?_eq_some_iff.1 h.row).1
  · exact (h.own.lt k hk).2
/-- The places at which calls stand. -/
theorem place_next (ws : List T3) (j : Nat) (h : j < ws.length) : (codes (ws.take (j + 1))).length = (codes (ws.take j)).length + (code ws[j]).length := by
  rw [List.take_succ_eq_append_getElem h, codes_snoc, List.length_append]
end Go.Proofs.Ytfncmgojeaeihaa
