/-
  jetsamlaw03.CodedInside: its walk.
-/
import Derived.Test.YtjiopnjmklampaaDoorOrder03
import Derived.Laws.AppendOwnNone
namespace Go.Proofs.YtjiopnjmklampaaDoor
open Go.RowKit

theorem nv8_length (l : List Nat) : (nv8 l).length = l.length := by simp [nv8]
theorem nv8_one (l : List Nat) : ∀ u ∈ nv8 l, u.oneCell' = true := by
  intro u hu
  simp only [nv8, List.mem_map] at hu
  obtain ⟨x, -, rfl⟩ := hu; rfl
theorem nv8_drop (l : List Nat) (i : Nat) : nv8 (l.drop i) = (nv8 l).drop i := by simp [nv8]
theorem nv8_take (l : List Nat) (i : Nat) : nv8 (l.take i) = (nv8 l).take i := by simp [nv8]

/-- append of a slice (nil or not) of one-cell elements onto a row of the call's own. -/
theorem appB {P : Program} {w0 W : World} {ops : Array Oper} {rest : List Oper} {o : Oper} {a : Act} {Q : Exit → Act → World → Prop} (hgd : o.guard = none) (s x : Operand) (t : TypeId)
    (ho : o.op = .call { callee := .builtin .append, args := #[s, x], argTypes := #[t, t] })
    {base : Nat} {e : TypeId} {z : Value} {bytes : Nat} (ht : P.underlying t = some (.slice e)) (hi : (P.info? e).map (fun i => (i.zero, i.size, i.bytes)) = some (some z, 1, bytes)) (hzs : z.cells.size = 1)
    {v : Value} {n : Nat} {xs : List Value} (hs : a.eval s = v) (hown : W.ownsRow base e 1 v n xs) (hB : w0.heap.size ≤ base) (hbW : base ≤ W.heap.size) (hb : Below w0.heap.size w0 W)
    {A : Option Addr} {m c : Nat} (hx : a.eval x = .slice A m c) (hA : A = none → m = 0 ∧ c = 0) {l : List Value} (hl : l.length = m) (hr : Rd W A l) (h1 : ∀ u ∈ l, u.oneCell' = true)
    (hbytes : (n + m) * bytes ≤ 140737488355328) (h63 : n + m ≤ maxLen)
    (h : ∀ v' w1, w1.ownsRow base e 1 v' (n + m) (xs ++ l) → Below w0.heap.size w0 w1 → base ≤ w1.heap.size → W.grownBy w1 v.ownBlock → (v'.ownBlock = v.ownBlock ∨ v'.ownBlock = some W.heap.size) → wpList P ops Q rest (a.put o.dst v') w1) :
    wpList P ops Q (o :: rest) a W := by
  obtain ⟨i, hi, hz0, hz1, hz2⟩ := info_parts hi
  cases A with
  | none =>
    obtain ⟨rfl, rfl⟩ := hA rfl
    have hl0 : l = [] := List.eq_nil_of_length_eq_zero hl
    subst hl0
    refine wpList_append_own_none hgd s x t ho base e i 1 ht hi v n xs hs hown hx (h v W (by simpa using hown) hb hbW ⟨rfl, rfl, rfl, Nat.le_refl _, fun _ _ _ => rfl⟩ (.inl rfl))
  | some ad =>
    refine wpList_append_own_at W hgd s x t ho base e i z 1 bytes ht hi hz0 hz1 hz2 hzs (by omega) v n xs hs hown ad m c l hx (by omega) ?_ h1 h63 hbytes hbW ?_
    · intro j u hu
      obtain ⟨b, of, e, hc⟩ := hr j u hu
      injection e with e; subst e
      have : (⟨b, of, none⟩ : Addr).add j = ⟨b, of + j, none⟩ := by unfold Addr.add; split <;> simp_all
      rw [this]; exact hc
    · intro v' w1 hown1 hgrow _ hat
      refine h v' w1 hown1 (hb.grown hgrow (by omega) ?_) ?_ hgrow hat
      · intro k hk
        have := (hown.lt k hk).1
        omega
      · have := hgrow.size; omega

set_option maxHeartbeats 1000000 in
theorem inside_walk (n : Int) (l : List Nat) (hl8 : ∀ x ∈ l, x < 256) (A : Option Addr) (c : Nat) (w : World) (hr : Rd w A (nv8 l)) (hc : l.length ≤ c) (hA : A = none → l.length = 0 ∧ c = 0) (ht : TabAt w) :
    Calls Tryd.prog 6 #[.int .i64 n, .slice A l.length c] w fun e w' => e = .returned (.bool true) ∧ Below w.heap.size w w' := by
  have Ht := Lib.hid ht; clear ht
  have Hr := Lib.hid hr; clear hr
  by_cases hn : n < 0 ∨ 68719476735 < n
  · go_enter Tryd.func6, Tryd.ntmps6
    go_wp2_with fail
    refine (put_no n hn _).mono ?_
    rintro e w1 ⟨rfl, hb1⟩
    go_wp2_with fail
    refine (awake_any _ (Ht.out.below hb1)).mono ?_
    rintro e w3 ⟨rfl, hb3⟩
    go_wp2_with fail
    go_ret
    exact ⟨rfl, bnext hb1 hb3⟩
  · obtain ⟨m, rfl⟩ : ∃ m : Nat, n = m := ⟨n.toNat, by omega⟩
    have hm : m < 68719476736 := by omega
    clear hn
    by_cases h20 : 20 < l.length
    · have h20' : (20 : Int) < l.length := by omega
      go_enter Tryd.func6, Tryd.ntmps6
      go_wp2_with fail
      refine (put_rd m hm _ Ht.out).mono ?_
      rintro e w1 ⟨A1, c1, rfl, hc1, -, -, hb1⟩
      go_wp2_with fail
      refine (awake_any _ (Ht.out.below hb1)).mono ?_
      rintro e w3 ⟨rfl, hb3⟩
      go_wp2_with fail
      go_ret
      exact ⟨rfl, bnext hb1 hb3⟩
    · have h20' : ¬ (20 : Int) < l.length := by omega
      have Hin := Lib.hid (fun i h1 h2 => getR_in m l i h1 h2)
      have Hl8 : Hid (∀ i, ∀ x ∈ (codeN m ++ l).drop i, x < 256) := by
        intro i x hx
        rcases List.mem_append.1 (List.mem_of_mem_drop hx) with h | h
        · exact codeN_lt m hm x h
        · exact hl8 x h
      have L := codeN_length m
      have hs := szN_pos m
      obtain ⟨p, hp⟩ : ∃ p, (codeN m).length = p := ⟨_, rfl⟩
      rw [hp] at L
      rw [← L] at hs Hin
      have Hp := Lib.hid hp
      clear hl8 L
      go_enter Tryd.func6, Tryd.ntmps6
      go_wp2_with fail
      refine (put_rd m hm _ Ht.out).mono ?_
      rintro e w1 ⟨A1, c1, rfl, hc1, Hown, -, hb1⟩
      rw [hp] at hc1 Hown ⊢
      clear hp
      have Hr1 : Hid (Rd w1 A (nv8 l)) := Hr.out.below hb1
      clear Hr
      have hsz1 := hb1.size
      go_upto_region 7 with (at_builtin; refine appB (w0 := w) rfl _ _ 22 rfl Tryd.underlying22 info_u8 rfl rfl Hown.out (Nat.le_refl _) hsz1 hb1 rfl hA (nv8_length l) Hr1.out (nv8_one l) (by omega) (by unfold maxLen; omega) ?_; intro v2 w2 own2 hb2 hs2 hgr2 hat2)
      rw [← nv8_append] at own2
      obtain ⟨A2, c2, rfl, hc2, hr2⟩ := own_rd own2
      have Hr2 := Lib.hid hr2
      clear hr2 own2 hgr2 hat2 Hown Hr1 hsz1
      have hN : (codeN m ++ l).length = p + l.length := by rw [List.length_append, Hp.out]
      have HN := Lib.hid hN
      clear hN
      generalize l.length = q at *
      go_loopw [8] (fun i wr => ∃ k : Nat, 1 ≤ k ∧ k ≤ p ∧ i = .int .i64 k ∧ Hid (Below w2.heap.size w2 wr)) (fun i _ => p - (intOf i).toNat)
      case atStart => exact ⟨1, by omega, by omega, rfl, Below.refl _ _⟩
      case round =>
        obtain ⟨k, hk1, hk, rfl, Hb⟩ := hrel
        by_cases hkk : k < p
        · have hk3 : (k : Int) < (p : Int) + q := by omega
          have hr3 := (Hr2.out.below Hb.out).drop k c2 (by rw [nv8_length, HN.out]; omega)
          rw [← nv8_drop] at hr3
          rw [if_neg (by omega)] at hr3
          have G := get_any ((codeN m ++ l).drop k) (Hl8.out k) _ (c2 - k) wr hr3 (by rw [List.length_drop, HN.out]; omega) (((Ht.out.below hb2)).below Hb.out)
          rw [Hin.out k hk1 hkk, List.length_drop, HN.out] at G
          have HG := Lib.hid G
          clear G hr3
          go_wp2_with fail
          refine HG.out.mono ?_
          rintro e w3 ⟨rfl, hb3⟩
          go_wp2_with fail
          go_roundw
          case rel => exact ⟨k + 1, by omega, by omega, by go_num, bnext Hb.out hb3⟩
          case measure => simp [intOf] <;> omega
        · obtain rfl : k = p := by omega
          have hb4 := bnext hb2 Hb.out
          go_wp2_with fail
          refine (awake_any _ (Ht.out.below hb4)).mono ?_
          rintro e w3 ⟨rfl, hb3⟩
          go_wp2_with fail
          go_ret
          exact ⟨rfl, bnext hb4 hb3⟩
end Go.Proofs.YtjiopnjmklampaaDoor
