/-
  A row of bytes of the call's own from whose head some were cut off.
-/
import Derived.Test.YtibhhebfenkeaaaDoorTake04
import Derived.ArgAppend
import Derived.Laws.OwnMore
namespace Go.Proofs.YtibhhebfenkeaaaDoor
open Go.RowKit

def Tl (w : World) (base : Nat) (v : Value) (xs : List Value) : Prop :=
  (v = .slice none 0 0 ∧ xs = []) ∨ ∃ g o cap cur, v = .slice (some ⟨g, o, none⟩) xs.length cap ∧ base ≤ g ∧ w.heap[g]? = some (.cells cur 5 (0, 0)) ∧ xs.length ≤ cap ∧ cap ≤ maxLen ∧ o + cap ≤ cur.size ∧ (cur.toList.drop o).take xs.length = xs
theorem Tl.lt {w : World} {base : Nat} {v : Value} {xs : List Value} (h : Tl w base v xs) : ∀ k, v.ownBlock = some k → base ≤ k ∧ k < w.heap.size := by
  intro k hk
  rcases h with ⟨rfl, -⟩ | ⟨g, o, cap, cur, rfl, hb, hg, -⟩
  · cases hk
  · simp only [Value.ownBlock, Option.some.injEq] at hk
    subst hk
    exact ⟨hb, (Array.getElem?_eq_some_iff.1 hg).1⟩
theorem Tl.own {w : World} {base : Nat} {v : Value} {n : Nat} {xs : List Value} (h : w.ownsRow base 5 1 v n xs) : Tl w base v xs := by
  have hl : xs.length = n := by have := h.1; omega
  rcases h.2 with ⟨rfl, h0⟩ | ⟨g, cap, cur, rfl, hb, hg, hc, hm, hs, ht⟩
  · exact .inl ⟨rfl, List.eq_nil_of_length_eq_zero (by omega)⟩
  · subst hl
    exact .inr ⟨g, 0, cap, cur, rfl, hb, hg, hc, hm, by omega, by rw [List.drop_zero]; simpa using ht⟩
theorem Tl.nil (w : World) (base : Nat) : Tl w base (.slice none 0 0) [] := .inl ⟨rfl, rfl⟩
theorem Tl.form {w : World} {base : Nat} {v : Value} {xs : List Value} (h : Tl w base v xs) : ∃ A c, v = .slice A xs.length c ∧ xs.length ≤ c ∧ c ≤ maxLen ∧ Rd w A xs ∧ (A = none → xs.length = 0 ∧ c = 0) ∧ (∀ k o, A = some ⟨k, o, none⟩ → base ≤ k ∧ k < w.heap.size) ∧ (∀ q, A = some q → q.spot = none) := by
  rcases h with ⟨rfl, rfl⟩ | ⟨g, o, cap, cur, rfl, hb, hg, hc, hm, hs, ht⟩
  · exact ⟨none, 0, rfl, Nat.le_refl _, by unfold maxLen; omega, (fun j u hu => by simp at hu), fun _ => ⟨rfl, rfl⟩, (fun k o e => by cases e), (fun q e => by cases e)⟩
  · refine ⟨_, cap, rfl, hc, hm, fun j u hu => ⟨g, o, rfl, ?_⟩, (fun e => by cases e), (fun k o' e => by injection e with e; injection e with e1 e2; subst e1; exact ⟨hb, (Array.getElem?_eq_some_iff.1 hg).1⟩), (fun q e => by injection e with e; rw [← e])⟩
    rw [cell_of_row _ g (o + j) _ _ _ hg, ← Array.getElem?_toList]
    rw [← ht, List.getElem?_take] at hu
    split at hu
    · rw [List.getElem?_drop] at hu; exact hu
    · cases hu
theorem Tl.block {w w' : World} {base : Nat} {v : Value} {xs : List Value} (h : Tl w base v xs) (hb : ∀ k, v.ownBlock = some k → w'.heap[k]? = w.heap[k]?) : Tl w' base v xs := by
  rcases h with h | ⟨g, o, cap, cur, rfl, hbb, hg, r⟩
  · exact .inl h
  · exact .inr ⟨g, o, cap, cur, rfl, hbb, (hb g rfl).trans hg, r⟩
theorem Tl.fr {S : Nat → Prop} {w w' : World} {base : Nat} {v : Value} {xs : List Value} (h : Tl w base v xs) (f : Fr S w w') (hs : ∀ k, v.ownBlock = some k → ¬ S k) : Tl w' base v xs :=
  h.block fun k hk => f.block k (h.lt k hk).2 (hs k hk)
/-- Sixty-four (or so many) cut off. -/
theorem Tl.cut {w : World} {base n c m : Nat} {A : Option Addr} {xs : List Value} (h : Tl w base (.slice A n c) xs) (hm : m ≤ n) (h0 : 0 < m) : Tl w base (.slice (if c = m then A else Option.map (fun x => x.add m) A) (n - m) (c - m)) (xs.drop m) := by
  rcases h with ⟨e, rfl⟩ | ⟨g, o, cap, cur, e, hb, hg, hc, hmx, hs, ht⟩
  · injection e with e1 e2 e3; omega
  · injection e with e1 e2 e3
    subst e1 e2 e3
    by_cases hcm : c = m
    · rw [if_pos hcm]
      have hx : xs.length = m := by omega
      have e : xs.drop m = [] := by rw [← hx]; exact List.drop_length
      rw [e]
      exact .inr ⟨g, o, c - m, cur, by rw [← hx]; simp, hb, hg, by simp, by omega, by omega, by simp⟩
    · rw [if_neg hcm]
      refine .inr ⟨g, o + m, c - m, cur, ?_, hb, hg, by rw [List.length_drop]; omega, by omega, by omega, ?_⟩
      · rw [List.length_drop]
        show Value.slice (some _) _ _ = _
        unfold Addr.add
        simp only
        rw [if_neg (by omega)]
      · rw [List.length_drop, ← List.drop_drop, ← List.drop_take]
        congr 1
/-- append onto it. -/
theorem appT {P : Program} {W : World} {ops : Array Oper} {rest : List Oper} {o : Oper} {a : Act} {Q : Exit → Act → World → Prop} (hgd : o.guard = none) (s x : Operand) (t : TypeId)
    (ho : o.op = .call { callee := .builtin .append, args := #[s, x], argTypes := #[t, t] })
    {base : Nat} {z : Value} (ht : P.underlying t = some (.slice 5)) (hi : (P.info? 5).map (fun i => (i.zero, i.size, i.bytes)) = some (some z, 1, 1)) (hzs : z.cells.size = 1)
    {v : Value} {xs : List Value} (hs : a.eval s = v) (hown : Tl W base v xs) (hbW : base ≤ W.heap.size)
    {A : Option Addr} {m c : Nat} {ys : List Value} (hx : a.eval x = .slice A m c) (hr : Rd W A ys) (hl : ys.length = m) (hnil : A = none → c = 0) (h1 : ∀ u ∈ ys, u.oneCell' = true)
    (hbytes : xs.length + m ≤ 140737488355328)
    (h : ∀ v' w1, Tl w1 base v' (xs ++ ys) → W.grownBy w1 v.ownBlock → (v'.ownBlock = v.ownBlock ∨ ∃ k, v'.ownBlock = some k ∧ W.heap.size ≤ k) → wpList P ops Q rest (a.put o.dst v') w1) :
    wpList P ops Q (o :: rest) a W := by
  obtain ⟨i, hi, hz0, hz1, hz2⟩ := info_parts hi
  have key : ∃ v' w1, (Builtin.append_ #[t, t] o.type #[v, .slice A m c]).run P W = .ok v' w1 ∧ Tl w1 base v' (xs ++ ys) ∧ W.grownBy w1 v.ownBlock ∧ (v'.ownBlock = v.ownBlock ∨ ∃ k, v'.ownBlock = some k ∧ W.heap.size ≤ k) := by
    have h63 : xs.length + m ≤ maxLen := by unfold maxLen; omega
    cases A with
    | none =>
      have hm : ys = [] := by
        cases ys with
        | nil => rfl
        | cons y l => obtain ⟨_, _, e, _⟩ := hr 0 y rfl; cases e
      subst hm
      obtain rfl : m = 0 := by simpa using hl.symm
      rw [hnil rfl, List.append_nil]
      refine ⟨v, W, ?_, hown, ⟨rfl, rfl, rfl, Nat.le_refl _, fun _ _ _ => rfl⟩, .inl rfl⟩
      rcases hown with ⟨rfl, rfl⟩ | ⟨g, q, cap, cur, rfl, -, -, hc, -⟩
      · simp [Builtin.append_, run_underlying ht, sizeOf, typeInfo, hi, Builtin.lenOf, Builtin.firstCells]
      · simp [Builtin.append_, run_underlying ht, sizeOf, typeInfo, hi, Builtin.lenOf, Builtin.firstCells, hc, storeCells]
    | some ad =>
      by_cases hm0 : m = 0
      · have hm : ys = [] := List.eq_nil_of_length_eq_zero (by omega)
        subst hm
        subst hm0
        rw [List.append_nil]
        refine ⟨v, W, ?_, hown, ⟨rfl, rfl, rfl, Nat.le_refl _, fun _ _ _ => rfl⟩, .inl rfl⟩
        have hf := run_firstCells_some (P := P) W i.size 0 ad 0 c [] (by simp) (by simp)
        rcases hown with ⟨rfl, rfl⟩ | ⟨g, q, cap, cur, rfl, -, -, hc, -⟩
        · simp [Builtin.append_, run_underlying ht, sizeOf, typeInfo, hi, Builtin.lenOf, Builtin.firstCells, loadCells, loadCellsFrom]
        · simp [Builtin.append_, run_underlying ht, sizeOf, typeInfo, hi, Builtin.lenOf, Builtin.firstCells, hc, storeCells, loadCells, loadCellsFrom]
      · obtain ⟨b1, o1, e1, -⟩ := hr.at_ (j := 0) (by omega)
        injection e1 with e1
        subst e1
        have hnews : ∀ j u, ys[j]? = some u → W.cell? ((⟨b1, o1, none⟩ : Addr).add j) = some u := fun j u hu => by
          obtain ⟨b, o, e, hc⟩ := hr j u hu
          injection e with e
          injection e with e1 e2
          subst e1 e2
          rw [show (⟨b1, o1, none⟩ : Addr).add j = ⟨b1, o1 + j, none⟩ from by unfold Addr.add; split <;> simp_all]
          exact hc
        rcases hown with ⟨rfl, rfl⟩ | ⟨g, q, cap, cur, rfl, hb, hg, hc, hmx, hsz, ht2⟩
        · obtain ⟨v', w1, hrun, hown1, hgr, -⟩ := run_append_own (P := P) W W.heap.size t o.type 5 i z 1 1 ht hi hz0 hz1 hz2 hzs (by decide) (.slice none 0 0) 0 [] (World.ownsRow_nil W W.heap.size _ 1) ⟨b1, o1, none⟩ m c ys (by omega) hnews h1 (by simpa using h63) (by simp at hbytes; omega) (Nat.le_refl _)
          have hT := Tl.own hown1
          refine ⟨v', w1, hrun, ?_, hgr, ?_⟩
          · rcases hT with h | ⟨g', q', cap', cur', e, hb', r⟩
            · exact .inl h
            · exact .inr ⟨g', q', cap', cur', e, Nat.le_trans hbW hb', r⟩
          · rcases hT with ⟨rfl, -⟩ | ⟨g', q', cap', cur', rfl, hb', -⟩
            · exact .inl rfl
            · exact .inr ⟨g', rfl, hb'⟩
        · by_cases hroom : xs.length + m ≤ cap
          · have hf := run_firstCells_some (P := P) W i.size m ⟨b1, o1, none⟩ m c ys (by rw [hz1]; omega) hnews
            have hst := run_storeCells_at P g (q + xs.length) 5 ys 0 cur W hg (by omega) h1
            simp only [Nat.add_zero] at hst
            rw [hz1] at hf
            refine ⟨.slice (some ⟨g, q, none⟩) (xs.length + m) cap, W.setRow g (cur.toList.take (q + xs.length) ++ ys ++ cur.toList.drop (q + xs.length + ys.length)).toArray, by simp [Builtin.append_, run_underlying ht, sizeOf, typeInfo, hi, hz1, Builtin.lenOf, hroom, hf, Addr.add_lit, hst], ?_, ⟨rfl, rfl, rfl, by simp, fun k _ hk => setRow_other W g k _ (fun e => hk (by simp [Value.ownBlock, e]))⟩, .inl rfl⟩
            have hxs : (cur.toList.take (q + xs.length)).drop q = xs := by rw [List.drop_take, show q + xs.length - q = xs.length from by omega]; exact ht2
            have htl : (cur.toList.take (q + xs.length)).length = q + xs.length := by have hz : cur.toList.length = cur.size := Array.length_toList; rw [List.length_take]; omega
            refine .inr ⟨g, q, cap, _, by rw [List.length_append, hl], hb, setRow_heap W g cur _ _ _ hg, by rw [List.length_append, hl]; exact hroom, hmx, ?_, ?_⟩
            · have hz : cur.toList.length = cur.size := Array.length_toList
              simp only [List.size_toArray, List.length_append, List.length_drop, htl]
              omega
            · rw [List.toList_toArray, List.append_assoc, List.drop_append_of_le_length (by omega), hxs, ← List.append_assoc, List.take_left]
          · obtain ⟨v', w1, hrun, hown1, hgr⟩ := run_append_arg_grows (P := P) W t o.type 5 i z 1 1 ht hi hz0 hz1 hz2 hzs (by decide) ⟨g, q, none⟩ xs.length cap xs (by omega) (fun j u hu => by
              rw [show (⟨g, q, none⟩ : Addr).add j = ⟨g, q + j, none⟩ from by unfold Addr.add; split <;> simp_all]
              rw [cell_of_row _ g (q + j) _ _ _ hg, ← Array.getElem?_toList]
              rw [← ht2, List.getElem?_take] at hu
              split at hu
              · rw [List.getElem?_drop] at hu; exact hu
              · cases hu) ⟨b1, o1, none⟩ m c ys (by omega) hnews (by omega) h63 (by omega)
            have hT := Tl.own hown1
            refine ⟨v', w1, hrun, ?_, ⟨hgr.os, hgr.tape, hgr.output, hgr.size, fun k hk _ => hgr.block k hk (by simp)⟩, ?_⟩
            · rcases hT with h | ⟨g', q', cap', cur', e, hb', r⟩
              · exact .inl h
              · exact .inr ⟨g', q', cap', cur', e, Nat.le_trans hbW hb', r⟩
            · rcases hT with ⟨-, h⟩ | ⟨g', q', cap', cur', rfl, hb', r⟩
              · have := congrArg List.length h; rw [List.length_append, List.length_nil] at this; omega
              · exact .inr ⟨g', rfl, hb'⟩
  obtain ⟨v', w1, hrun, h2, h3, h4⟩ := key
  refine wpList_plain hgd fun K hK => ?_
  unfold Oper.wp execOp
  simp only [ho, resolve, invoke, builtin, Sem.run_bind, Sem.run_pure, Result.andThen_ok, List.map_toArray, List.map_cons, List.map_nil, hs, hx, hrun]
  exact hK _ _ (h v' w1 h2 h3 h4)
end Go.Proofs.YtibhhebfenkeaaaDoor
