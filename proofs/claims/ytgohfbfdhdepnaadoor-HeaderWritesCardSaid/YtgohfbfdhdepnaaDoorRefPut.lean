/-
  jetsamref03.Size, jetsamref03.Put.
-/
import Derived.Test.YtgohfbfdhdepnaaDoorPack
import Derived.Test.YtgohfbfdhdepnaaDoorL2
namespace Go.Proofs.YtgohfbfdhdepnaaDoor.C3
open Go.RowKit

/-- append of several elements of one cell onto a row of the call's own, boxed right before. -/
theorem appM {P : Program} {w0 W : World} {ops : Array Oper} {rest : List Oper} {o : Oper} {a : Act} {Q : Exit → Act → World → Prop} (hgd : o.guard = none) (s x : Operand) (t : TypeId)
    (ho : o.op = .call { callee := .builtin .append, args := #[s, x], argTypes := #[t, t] })
    {base : Nat} {e : TypeId} {z : Value} {bytes : Nat} (ht : P.underlying t = some (.slice e)) (hi : (P.info? e).map (fun i => (i.zero, i.size, i.bytes)) = some (some z, 1, bytes)) (hzs : z.cells.size = 1)
    {v : Value} {n : Nat} {xs : List Value} (hs : a.eval s = v) (hown : W.ownsRow base e 1 v n xs) (hB : w0.heap.size ≤ base) (hbW : base ≤ W.heap.size) (hb : Below w0.heap.size w0 W)
    {arr : Array Value} {m : Nat} (hx : a.eval x = .slice (some ⟨W.heap.size, 0, none⟩) m m) (hl : arr.size = m) (h1 : ∀ u ∈ arr.toList, u.oneCell' = true)
    (hbytes : (n + m) * bytes ≤ 140737488355328) (h63 : n + m ≤ maxLen)
    (h : ∀ v' w1, w1.ownsRow base e 1 v' (n + m) (xs ++ arr.toList) → Below w0.heap.size w0 w1 → base ≤ w1.heap.size → wpList P ops Q rest (a.put o.dst v') w1) :
    wpList P ops Q (o :: rest) a (W.alloc (.cells arr e)) := by
  obtain ⟨i, hi, hz0, hz1, hz2⟩ := info_parts hi
  refine wpList_append_own (W.alloc (.cells arr e)) hgd s x t ho base e i z 1 bytes ht hi hz0 hz1 hz2 hzs (by omega) v n xs hs (hown.alloc _) ⟨W.heap.size, 0, none⟩ m m arr.toList hx (by simp [hl]) ?_ h1 h63 hbytes (by simp; omega) ?_
  · intro j u hu
    have : (⟨W.heap.size, 0, none⟩ : Addr).add j = ⟨W.heap.size, j, none⟩ := by unfold Addr.add; split <;> simp_all
    rw [this, cell_of_row _ W.heap.size j arr e (0, 0) (heap_alloc_new W _)]
    simpa using hu
  · intro v' w1 hown1 hgrow _
    refine h v' w1 hown1 ((hb.alloc (by omega) _).grown hgrow (by simp; omega) ?_) ?_
    · intro k hk
      have := (hown.lt k hk).1
      omega
    · have := hgrow.size; simp at this; omega

theorem two_int : ∀ u ∈ (#[Value.int .i64 1, Value.int .i64 0]).toList, u.oneCell' = true := by intro u hu; simp at hu; rcases hu with rfl | rfl <;> rfl
theorem info_int : (Tryd.prog.info? 3).map (fun i => (i.zero, i.size, i.bytes)) = some (some (.int .i64 0), 1, 8) := by kernel_rfl

/-- 2048, times 32, so often. -/
def most (k : Nat) : Nat := 2 ^ (5 * k + 1)
theorem most_succ (k : Nat) : most (k + 1) = most k * 32 := by
  unfold most
  rw [show 5 * (k + 1) + 1 = 5 * k + 1 + 5 from by omega, Nat.pow_add]
theorem most_iff (n : Nat) (hn : n < 68719476736) (k : Nat) (h1 : 2 ≤ k) (h7 : k ≤ 7) (h128 : 128 ≤ n) : (most k ≤ n) ↔ k < szN n := by
  have hk : k = 2 ∨ k = 3 ∨ k = 4 ∨ k = 5 ∨ k = 6 ∨ k = 7 := by omega
  unfold szN most
  rcases hk with rfl | rfl | rfl | rfl | rfl | rfl <;> simp only [Nat.reduceMul, Nat.reduceAdd, Nat.reducePow] <;> (repeat' split) <;> omega
theorem most_le (k : Nat) (h : k ≤ 8) : most k ≤ 2199023255552 := by
  unfold most
  exact Nat.le_trans (Nat.pow_le_pow_right (by omega) (show 5 * k + 1 ≤ 41 by omega)) (by decide)

set_option maxRecDepth 100000 in
set_option maxHeartbeats 400000 in
theorem size_ok (n : Nat) (hn : n < 68719476736) (w : World) :
    Calls Tryd.prog 60 #[.int .i64 n] w fun e w' => e = .returned (.int .i64 (szN n : Nat)) ∧ w' = w := by
  by_cases h128 : n < 128
  · have hs : Hid (szN n = 1) := if_pos h128
    have : (n : Int) < 128 := by omega
    go_enter Tryd.func60, Tryd.ntmps60
    go_wp2_with fail
    go_ret
    exact ⟨ret_int (by rw [hs.out]; rfl), rfl⟩
  · have h1 : ¬ (n : Int) < 128 := by omega
    have hs2 : 2 ≤ szN n := by unfold szN; (repeat' split) <;> omega
    have hs7 := (szN_pos n).2
    have Hiff := Lib.hid (fun k h1 h7 => most_iff n hn k h1 h7 (by omega))
    obtain ⟨S, hS⟩ : ∃ S, szN n = S := ⟨_, rfl⟩
    rw [hS] at hs2 hs7 Hiff
    have HS := Lib.hid hS
    clear hS
    go_enter Tryd.func60, Tryd.ntmps60
    go_wp2_with fail
    go_loop [3, 4] (fun i m => ∃ k : Nat, 2 ≤ k ∧ k ≤ S ∧ i = .int .i64 k ∧ m = .int .i64 (most k : Nat)) (fun i _ => 8 - (intOf i).toNat)
    case atStart => exact ⟨2, by omega, hs2, rfl, rfl⟩
    case round =>
      obtain ⟨k, h2, hk, rfl, rfl⟩ := hrel
      have hiff := Hiff.out k h2 (by omega)
      have Hm := Lib.hid (most_succ k)
      have hml := most_le k (by omega)
      by_cases hkk : k < S
      · have hz := hiff.2 hkk
        have hz' : (most k : Int) ≤ n := by omega
        clear hiff hz
        generalize most k = m at *
        go_wp2_with fail
        go_round
        case rel => exact ⟨k + 1, by omega, by omega, by go_num, by rw [Hm.out]; simp⟩
        case measure => simp [intOf]; omega
      · have hz : ¬ most k ≤ n := fun h => hkk (hiff.1 h)
        have hz' : ¬ (most k : Int) ≤ n := by omega
        obtain rfl : k = S := by omega
        clear hiff hz
        generalize most k = m at *
        go_wp2_with fail
        go_ret
        exact ⟨ret_int (by rw [HS.out]), rfl⟩

/-- The bits of a code of k bytes, as they are laid: after t of the number's bits. -/
def tot (k : Nat) : Nat := 7 - k + 6 * (k - 1)
def rb (n k : Nat) : Nat → List Nat
  | 0 => List.replicate k 1 ++ [0]
  | t + 1 => rb n k t ++ (if 7 - k ≤ t ∧ (t - (7 - k)) % 6 = 0 then [1, 0] else []) ++ [n / 2 ^ (tot k - 1 - t) % 2]
def rbLen (k : Nat) : Nat → Nat
  | 0 => k + 1
  | t + 1 => rbLen k t + (if 7 - k ≤ t ∧ (t - (7 - k)) % 6 = 0 then 2 else 0) + 1
theorem rb_length (n k : Nat) : ∀ t, (rb n k t).length = rbLen k t
  | 0 => by simp [rb, rbLen]
  | t + 1 => by
    have := rb_length n k t
    simp only [rb, rbLen, List.length_append, List.length_singleton, this]
    split <;> rfl
theorem rbLen_le (k : Nat) : ∀ t, rbLen k t ≤ k + 1 + 3 * t
  | 0 => by simp [rbLen]
  | t + 1 => by
    have := rbLen_le k t
    simp only [rbLen]
    split <;> omega

set_option maxRecDepth 100000 in
set_option maxHeartbeats 1000000 in
theorem refPut_ok (n : Nat) (hn : n < 68719476736) (hcode : szN n ≠ 1 → packN (rb n (szN n) (tot (szN n))) = codeN n ∧ (rb n (szN n) (tot (szN n))).length = 8 * szN n ∧ ∀ x ∈ rb n (szN n) (tot (szN n)), x ≤ 1) (w : World) :
    Calls Tryd.prog 40 #[.int .i64 n] w fun e w' => ∃ v, e = .returned v ∧ Hid (w'.ownsRow w.heap.size 5 1 v (szN n) (nv8 (codeN n))) ∧ Below w.heap.size w w' := by
  have Hcode := Lib.hid hcode
  clear hcode
  have hs := szN_pos n
  go_enter Tryd.func40, Tryd.ntmps40
  go_wp2_with fail
  refine (size_ok n hn _).mono ?_
  rintro e w1 ⟨rfl, rfl⟩
  by_cases h1 : szN n = 1
  · have H1 := Lib.hid h1
    have Hc : Hid (codeN n = [n]) := if_pos h1
    have hlt : n < 128 := by
      have := H1.out; unfold szN at this; (repeat' split at this) <;> omega
    rw [h1]
    clear h1 hs
    go_wp2_with fail
    go_ret
    refine ⟨_, rfl, ?_, by repeat (first | exact Below.refl _ _ | assumption | refine below_drewN ?_ _ | refine Below.drew ?_ | refine Below.alloc ?_ (Nat.le_refl _) _ | refine bal ?_ _ | refine bnext ?_ (by assumption))⟩
    rw [Hc.out, H1.out]
    exact ownsRow_one w1 w1.heap.size (Nat.le_refl _) 5 (.int .u8 n)
  · have HC := Lib.hid (Hcode.out h1)
    obtain ⟨S, hS⟩ : ∃ S, szN n = S := ⟨_, rfl⟩
    have h3 : ((S : Int) == 1) = false := by rw [beq_eq_false_iff_ne]; omega
    rw [hS] at HC hs
    have hS1 : 2 ≤ S := by omega
    rw [hS]
    have HS := Lib.hid hS
    clear hS h1 Hcode
    go_wp2_with fail
    go_loopw [4, 5] (fun v i wr => ∃ j : Nat, j ≤ S ∧ i = .int .i64 j ∧ Hid (wr.ownsRow w1.heap.size 3 1 v j (nv (List.replicate j 1))) ∧ Below w1.heap.size w1 wr) (fun _ i _ => S - (intOf i).toNat)
    case atStart => exact ⟨0, by omega, rfl, World.ownsRow_nil w1 w1.heap.size _ 1, Below.refl _ _⟩
    case round =>
      obtain ⟨j, hj, rfl, Hown, hb⟩ := hrel
      have hsz := hb.size
      by_cases hjj : j < S
      · go_wp2_with (at_builtin; refine app1 (w0 := w1) rfl _ _ 65 rfl Tryd.underlying65 info_int rfl (by decide) rfl Hown.out (Nat.le_refl _) hsz hb rfl rfl (one_int _ _) (by omega) (by unfold maxLen; omega) ?_; intro v1 w6 own1 hb1 hs1; have Hown1 := Lib.hid own1; clear own1)
        go_roundw
        case rel =>
          refine ⟨j + 1, by omega, by go_num, ?_, hb1⟩
          rw [List.replicate_succ', nv_append]
          exact Hown1.out
        case measure => simp [intOf] <;> omega
      · obtain rfl : j = S := by omega
        go_upto_region 10 with (at_builtin; refine app1 (w0 := w1) rfl _ _ 65 rfl Tryd.underlying65 info_int rfl (by decide) rfl Hown.out (Nat.le_refl _) hsz hb rfl rfl (one_int _ _) (by omega) (by unfold maxLen; omega) ?_; intro v1 w2 own1 hb2 hs1; have Hown1 := Lib.hid own1; clear own1)
        clear Hown hb hsz hjj hj
        have hT1 : ((tot j : Nat) : Int) = 7 - j + 6 * (j - 1) := by unfold tot; omega
        have hT36 : tot j ≤ 36 := by unfold tot; omega
        have HT := Lib.hid hT1
        clear hT1
        go_upto_region 12 with fail
        go_loopw [4, 7] (fun v i wr => ∃ t : Nat, t ≤ tot j ∧ i = .int .i64 t ∧ Hid (wr.ownsRow w1.heap.size 3 1 v (rbLen j t) (nv (rb n j t))) ∧ Below w1.heap.size w1 wr) (fun _ i _ => tot j - (intOf i).toNat)
        case atStart =>
          refine ⟨0, by omega, rfl, ?_, hb2⟩
          have h := Hown1.out
          rw [← show nv (List.replicate j 1 ++ [0]) = nv (List.replicate j 1) ++ (#[Value.int .i64 0]).toList from by rw [nv_append]; rfl] at h
          exact h
        case round =>
          clear Hown1 hb2
          obtain ⟨t, ht, rfl, Hown, hb⟩ := hrel
          have hsz := hb.size
          have hrl := rbLen_le j t
          by_cases htt : t < tot j
          · have hTi : (t : Int) < 7 - j + 6 * (j - 1) := by have := HT.out; omega
            have E1 : (7 - (j : Int) + 6 * (j - 1) - 1 - t) = ((tot j - 1 - t : Nat) : Int) := by have := HT.out; omega
            obtain ⟨d, hd⟩ : ∃ d, tot j - 1 - t = d := ⟨_, rfl⟩
            have hd36 : d < 36 := by omega
            rw [hd] at E1
            have HE := Lib.hid (and_one_int n d (by omega))
            have Hs : Hid (rb n j (t + 1) = rb n j t ++ (if 7 - j ≤ t ∧ (t - (7 - j)) % 6 = 0 then [1, 0] else []) ++ [n / 2 ^ d % 2]) := by
              show _ = _
              rw [← hd]; rfl
            have Hl : Hid (rbLen j (t + 1) = rbLen j t + (if 7 - j ≤ t ∧ (t - (7 - j)) % 6 = 0 then 2 else 0) + 1) := rfl
            clear hd
            by_cases hA : 7 - j ≤ t
            · have hA' : 7 - (j : Int) ≤ t := by omega
              by_cases hB : (t - (7 - j)) % 6 = 0
              · rw [if_pos ⟨hA, hB⟩] at Hs Hl
                go_upto_region 16 with (at_builtin; refine appM (w0 := w1) rfl _ _ 65 rfl Tryd.underlying65 info_int rfl rfl Hown.out (Nat.le_refl _) hsz hb (m := 2) rfl rfl two_int (by omega) (by unfold maxLen; omega) ?_; intro v2 w6 own2 hb6 hs6; have Hown2 := Lib.hid own2; clear own2)
                go_wp2_with (at_builtin; refine app1 (w0 := w1) rfl _ _ 65 rfl Tryd.underlying65 info_int rfl (by decide) rfl Hown2.out (Nat.le_refl _) hs6 hb6 rfl rfl (one_int _ _) (by omega) (by unfold maxLen; omega) ?_; intro v3 w7 own3 hb7 hs7; have Hown3 := Lib.hid own3; clear own3)
                go_roundw
                case rel =>
                  refine ⟨t + 1, by omega, by go_num, ?_, hb7⟩
                  have h := Hown3.out
                  rw [HE.out] at h
                  rw [Hs.out, Hl.out]
                  rw [nv_append, nv_append]; exact h
                case measure => simp [intOf] <;> omega
              · rw [if_neg (fun h => hB h.2)] at Hs Hl
                go_wp2_with (at_builtin; refine app1 (w0 := w1) rfl _ _ 65 rfl Tryd.underlying65 info_int rfl (by decide) rfl Hown.out (Nat.le_refl _) hsz hb rfl rfl (one_int _ _) (by omega) (by unfold maxLen; omega) ?_; intro v3 w7 own3 hb7 hs7; have Hown3 := Lib.hid own3; clear own3)
                go_roundw
                case rel =>
                  refine ⟨t + 1, by omega, by go_num, ?_, hb7⟩
                  have h := Hown3.out
                  rw [HE.out] at h
                  rw [Hs.out, Hl.out]
                  rw [List.append_nil, nv_append]; exact h
                case measure => simp [intOf] <;> omega
            · have hA' : ¬ 7 - (j : Int) ≤ t := by omega
              rw [if_neg (fun h => hA h.1)] at Hs Hl
              go_wp2_with (at_builtin; refine app1 (w0 := w1) rfl _ _ 65 rfl Tryd.underlying65 info_int rfl (by decide) rfl Hown.out (Nat.le_refl _) hsz hb rfl rfl (one_int _ _) (by omega) (by unfold maxLen; omega) ?_; intro v3 w7 own3 hb7 hs7; have Hown3 := Lib.hid own3; clear own3)
              go_roundw
              case rel =>
                refine ⟨t + 1, by omega, by go_num, ?_, hb7⟩
                have h := Hown3.out
                rw [HE.out] at h
                rw [Hs.out, Hl.out]
                rw [List.append_nil, nv_append]; exact h
              case measure => simp [intOf] <;> omega
          · obtain rfl : t = tot j := by omega
            have hTi : ¬ ((tot j : Nat) : Int) < 7 - j + 6 * (j - 1) := by have := HT.out; omega
            obtain ⟨A, c, rfl, hc, hr⟩ := own_rd Hown.out
            have Hrd := Lib.hid hr
            clear hr
            obtain ⟨hp, hl8, hx1⟩ := HC.out
            have hrl2 := rb_length n j (tot j)
            have P := pack_any (rb n j (tot j)) hx1 A c wr Hrd.out (by rw [hl8]; omega)
            rw [hl8, hp, show (8 * j + 7) / 8 = j from by omega] at P
            have e8 : rbLen j (tot j) = 8 * j := hrl2.symm.trans hl8
            rw [e8]
            have HP := Lib.hid P
            clear P hp hx1 hl8 hrl2 HC e8 hc Hrd hrl
            go_wp2_with fail
            refine HP.out.mono ?_
            rintro e w8 ⟨v8, rfl, Hown8, hb8⟩
            go_wp2_with fail
            go_ret
            refine ⟨_, rfl, ?_, bnext hb hb8⟩
            rw [HS.out]
            exact ownsRow_less Hown8.out hsz
end Go.Proofs.YtgohfbfdhdepnaaDoor.C3
