/-
  predict.Best.
-/
import Derived.Test.YtghnjgemjiekgaaDoorFixed
namespace Go.Proofs.YtghnjgemjiekgaaDoor
open Go.RowKit

def absI (x : Int) : Int := if x < -x then -x else x
def absS (l : List Int) : Int := l.foldl (fun s x => s + absI x) 0
theorem absS_snoc (l : List Int) (x : Int) : absS (l ++ [x]) = absS l + absI x := by simp [absS]
theorem absI_bd (x : Int) (B : Int) (h : -B ≤ x ∧ x ≤ B) : 0 ≤ absI x ∧ absI x ≤ B := by unfold absI; split <;> omega
theorem absS_bd (l : List Int) (B : Nat) (h : ∀ x ∈ l, -(B : Int) ≤ x ∧ x ≤ B) : 0 ≤ absS l ∧ absS l ≤ B * l.length := by
  have key : ∀ (l : List Int) (s : Int), (∀ x ∈ l, -(B : Int) ≤ x ∧ x ≤ B) → s ≤ l.foldl (fun s x => s + absI x) s ∧ l.foldl (fun s x => s + absI x) s ≤ s + B * l.length := by
    intro l
    induction l with
    | nil => intro s _; simp
    | cons x l ih =>
      intro s h
      have h1 := ih (s + absI x) fun y hy => h y (List.mem_cons_of_mem _ hy)
      have h2 := absI_bd x B (h x (List.mem_cons_self ..))
      simp only [List.foldl_cons, List.length_cons]
      have e : (B : Int) * ((l.length + 1 : Nat) : Int) = B * l.length + B := by rw [Int.natCast_add, Int.mul_add]; simp
      rw [e]
      omega
  have := key l 0 h
  unfold absS
  omega
/-- The best order, and its sum, of the first k. -/
def bst (s : Nat → Int) : Nat → Nat × Int
  | 0 => (0, -1)
  | k + 1 => if (bst s k).2 < 0 ∨ s k < (bst s k).2 then (k, s k) else bst s k
def bestV (ls : List Int) : Nat := if ls.any outS = true then 0 else (bst (fun k => absS (resN (fixC k) 0 ls)) (min 5 ls.length)).1
theorem fixC_ok : ∀ k, k < 5 → okL 4 0 (fixC k) = true ∧ (fixC k).length = k := by decide
theorem resN_bd (cs : List Int) (ls : List Int) (sh : Nat) (hcs : ∀ c ∈ cs, -16384 ≤ c ∧ c ≤ 16384) (hm : cs.length ≤ 32) (hs : okS ls) : ∀ x ∈ resN cs sh ls, -((2256094780981248 : Nat) : Int) ≤ x ∧ x ≤ (2256094780981248 : Nat) := by
  intro x hx
  simp only [resN, List.mem_map] at hx
  obtain ⟨j, -, rfl⟩ := hx
  have h1 := toldN_bd cs (ls.take (cs.length + j)) sh hcs hm (okS_take hs _)
  have h2 := okS_get hs (cs.length + j)
  omega

set_option maxRecDepth 100000 in
set_option maxHeartbeats 2000000 in
theorem Best_any (ls : List Int) (A : Option Addr) (c : Nat) (w : World) (hF : FixAt w) (hrl : Rd w A (zv ls)) (hl : ls.length ≤ 1000) (hcap : ls.length ≤ c) (hcap63 : c ≤ 9223372036854775807) :
    Calls Tryd.prog 16 #[.slice A ls.length c] w fun e w' => e = .returned (.int .i64 (bestV ls : Nat)) ∧ Below w.heap.size w w' := by
  have HF := Lib.hid hF
  have Hrl := Lib.hid hrl
  clear hF hrl
  have HS : Hid (∀ k, k < 5 → k < ls.length → ∀ (A' : Option Addr) (c' : Nat) (W : World), Below w.heap.size w W → Rd W A' (zv (fixC k)) → (ls.any outS = true → Calls Tryd.prog 9 #[.agg #[.int .i64 4, .int .i64 0, .slice A' k c'], .slice A ls.length c] W fun e w' => e = .returned (.tuple #[.slice none 0 0, .int .i64 10]) ∧ Below W.heap.size W w') ∧
      (ls.any outS = false → Calls Tryd.prog 9 #[.agg #[.int .i64 4, .int .i64 0, .slice A' k c'], .slice A ls.length c] W fun e w' => ∃ v, e = .returned (.tuple #[v, .int .i64 0]) ∧ Hid (w'.ownsRow W.heap.size 3 1 v (resN (fixC k) 0 ls).length (zv (resN (fixC k) 0 ls))) ∧ Below W.heap.size W w')) := by
    intro k hk hkl A' c' W hW hrd
    obtain ⟨hok, hlen⟩ := fixC_ok k hk
    constructor
    · intro han
      have hE : resE 4 0 (fixC k) ls = 10 := by
        unfold resE
        rw [if_neg (by rw [hok]; decide), if_neg (by rw [hlen]; omega), if_pos han]
      have h := Residual_no 4 0 (fixC k) ls A' A c' c W hrd (Hrl.out.below hW) (by rw [hlen]; omega) (by omega) (by rw [hE]; decide)
      rw [hE, hlen] at h
      exact h
    · intro han
      have hE : resE 4 0 (fixC k) ls = 0 := by
        unfold resE
        rw [if_neg (by rw [hok]; decide), if_neg (by rw [hlen]; omega), if_neg (by rw [han]; decide)]
      have h := Residual_ok 4 0 (fixC k) ls A' A c' c W hrd (Hrl.out.below hW) (by omega) hcap hcap63 hE
      rw [hlen] at h
      exact h
  have HD : Hid (ls.any outS = false → ∀ k, k < 5 → ∀ x ∈ resN (fixC k) 0 ls, -((2256094780981248 : Nat) : Int) ≤ x ∧ x ≤ (2256094780981248 : Nat)) := by
    intro han k hk
    obtain ⟨hok, hlen⟩ := fixC_ok k hk
    obtain ⟨h1, -, h3⟩ := okL_spec hok
    exact resN_bd _ _ _ h3 h1 (okS_of _ han)
  by_cases h5 : ls.length < 5
  · have h5i : (ls.length : Int) < 5 := by omega
    have HB : Hid (bestV ls = if ls.any outS = true then 0 else (bst (fun k => absS (resN (fixC k) 0 ls)) ls.length).1) := by
      show _ = _
      unfold bestV
      rw [Nat.min_eq_right (by omega)]
    obtain ⟨bv, hbv⟩ : ∃ z, bestV ls = z := ⟨_, rfl⟩
    rw [hbv] at HB ⊢
    have Hbv := Lib.hid hbv
    clear hbv
    go_enter Tryd.func16, Tryd.ntmps16
    go_wp2_with fail
    go_loopw [3, 4, 16] (fun bv_ lv iv wr => ∃ k : Nat, k ≤ ls.length ∧ iv = .int .i64 k ∧ bv_ = .int .i64 ((bst (fun k => absS (resN (fixC k) 0 ls)) k).1 : Nat) ∧ lv = .int .i64 (bst (fun k => absS (resN (fixC k) 0 ls)) k).2 ∧ (0 < k → ls.any outS = false) ∧ Hid (Below w.heap.size w wr)) (fun _ _ iv _ => ls.length - (intOf iv).toNat)
    case atStart => exact ⟨0, by omega, rfl, rfl, rfl, fun h => by omega, Below.refl _ _⟩
    case round =>
      obtain ⟨k, hk, rfl, rfl, rfl, Han, Hb⟩ := hrel
      by_cases hkk : k < ls.length
      · have hk5 : k < 5 := by omega
        have hkl : k < ls.length := by omega
        have HX := Lib.hid (fun A' c' (W : World) hW hrd => HS.out k hk5 hkl A' c' W hW hrd)
        have HFx := Lib.hid (Fixed_ok k hk5 wr (HF.out.below Hb.out))
        have Hst : Hid (bst (fun k => absS (resN (fixC k) 0 ls)) (k + 1) = if (bst (fun k => absS (resN (fixC k) 0 ls)) k).2 < 0 ∨ absS (resN (fixC k) 0 ls) < (bst (fun k => absS (resN (fixC k) 0 ls)) k).2 then (k, absS (resN (fixC k) 0 ls)) else bst (fun k => absS (resN (fixC k) 0 ls)) k) := rfl
        generalize hb0 : (bst (fun k => absS (resN (fixC k) 0 ls)) k).1 = b0 at *
        have Hb0 := Lib.hid hb0
        clear hb0
        go_wp2_with fail
        refine HFx.out.mono ?_
        rintro e w3 ⟨A', c', rfl, hcc', hrd, hb3⟩
        have hb4 := bnext Hb.out hb3
        have hb5 := bal hb4 (.cells #[.int .i64 4, .int .i64 0, .slice A' k c'] 24)
        have HRd := Lib.hid (hrd.alloc (.cells #[.int .i64 4, .int .i64 0, .slice A' k c'] 24))
        have HX2 := Lib.hid (HX.out A' c' _ hb5 HRd.out)
        clear hrd HX HRd HFx hb3
        go_wp2_with fail
        cases han : ls.any outS with
        | true =>
          have HB2 : Hid (bv = 0) := by show _ = _; rw [HB.out, han]; rfl
          refine (HX2.out.1 han).mono ?_
          rintro e w5 ⟨rfl, hb6⟩
          have hb7 := bnext hb5 hb6
          go_wp2_with fail
          go_ret
          exact ⟨by rw [HB2.out]; rfl, hb7⟩
        | false =>
          have Hdb := Lib.hid (HD.out han k hk5)
          have Hdl : Hid ((resN (fixC k) 0 ls).length ≤ 1000) := by show _ ≤ _; rw [resN_length]; omega
          refine (HX2.out.2 han).mono ?_
          rintro e w5 ⟨v, rfl, Hown, hb6⟩
          obtain ⟨A9, c9, rfl, hc9, hr9⟩ := own_rd Hown.out
          have Hr9 := Lib.hid hr9
          have hb7 := Lib.hid (bnext hb5 hb6)
          have Hlv : Hid ((bst (fun k => absS (resN (fixC k) 0 ls)) k).2 = (bst (fun k => absS (resN (fixC k) 0 ls)) k).2) := rfl
          clear hr9 Hown HX2 hb6 hb5 hb4
          generalize resN (fixC k) 0 ls = d at *
          generalize hlv : (bst (fun k => absS (resN (fixC k) 0 ls)) k).2 = lv at *
          have HLV := Lib.hid hlv
          have Hdl1 := Hdl.out
          clear hlv Hlv
          go_wp2_with fail
          go_loop [10, 34] (fun sv iv => ∃ i : Nat, i ≤ d.length ∧ iv = .int .i64 i ∧ sv = .int .i64 (absS (d.take i))) (fun _ iv => d.length - (intOf iv).toNat)
          case atStart => exact ⟨0, by omega, rfl, rfl⟩
          case round =>
            obtain ⟨i, hi, rfl, rfl⟩ := hrel
            by_cases hii : i < d.length
            · obtain ⟨b9, o9, rfl, hc9⟩ := Hr9.out i (.int .i64 d[i]) (by simp [zv, hii])
              have Hsn : Hid (absS (d.take (i + 1)) = absS (d.take i) + absI d[i]) := by
                show _ = _
                rw [List.take_succ_eq_append_getElem hii, absS_snoc]
              have hsb := absS_bd (d.take i) 2256094780981248 fun x hx => Hdb.out x (List.mem_of_mem_take hx)
              rw [List.length_take, Nat.min_eq_left hi] at hsb
              have hxb := Hdb.out _ (List.getElem_mem hii)
              have Hab : Hid (∀ x : Int, absI x = if x < -x then -x else x) := fun _ => rfl
              have Hab := Lib.hid (Hab.out d[i])
              generalize absS (d.take i) = s0 at *
              generalize d[i] = x at *
              go_wp2_with fail
              go_round
              case rel => exact ⟨i + 1, by omega, by go_num, by rw [Hsn.out, Hab.out]⟩
              case measure => simp [intOf]; omega
            · obtain rfl : i = d.length := by omega
              have Htk : Hid (d.take d.length = d) := by show _ = _; rw [List.take_length]
              rw [Htk.out]
              clear Htk
              generalize absS d = s0 at *
              by_cases h1 : lv < 0
              · have Hst2 : Hid (bst (fun k => absS (resN (fixC k) 0 ls)) (k + 1) = (k, s0)) := by show _ = _; rw [Hst.out, if_pos (.inl h1)]
                go_wp2_with fail
                go_roundw
                case rel => exact ⟨k + 1, by omega, by go_num, by rw [Hst2.out], by rw [Hst2.out], fun _ => han, hb7.out⟩
                case measure => simp [intOf] <;> omega
              · by_cases h2 : s0 < lv
                · have Hst2 : Hid (bst (fun k => absS (resN (fixC k) 0 ls)) (k + 1) = (k, s0)) := by show _ = _; rw [Hst.out, if_pos (.inr h2)]
                  go_wp2_with fail
                  go_roundw
                  case rel => exact ⟨k + 1, by omega, by go_num, by rw [Hst2.out], by rw [Hst2.out], fun _ => han, hb7.out⟩
                  case measure => simp [intOf] <;> omega
                · have Hst2 : Hid (bst (fun k => absS (resN (fixC k) 0 ls)) (k + 1) = bst (fun k => absS (resN (fixC k) 0 ls)) k) := by show _ = _; rw [Hst.out, if_neg (fun h => by rcases h with h | h; exact h1 h; exact h2 h)]
                  go_wp2_with fail
                  go_roundw
                  case rel => exact ⟨k + 1, by omega, by go_num, by rw [Hst2.out, Hb0.out], by rw [Hst2.out, HLV.out], fun _ => han, hb7.out⟩
                  case measure => simp [intOf] <;> omega
      · obtain rfl : k = ls.length := by omega
        have HB2 : Hid (bv = (bst (fun k => absS (resN (fixC k) 0 ls)) (ls.length)).1) := by
          show _ = _
          rw [HB.out]
          by_cases h0 : 0 < ls.length
          · rw [if_neg (by rw [Han h0]; decide)]
          · have e : ls.length = 0 := by omega
            rw [e]; simp [bst]
        generalize (bst (fun k => absS (resN (fixC k) 0 ls)) (ls.length)).1 = q at *
        generalize (bst (fun k => absS (resN (fixC k) 0 ls)) (ls.length)).2 = q2 at *
        go_wp2_with fail
        go_ret
        exact ⟨by rw [HB2.out]; rfl, Hb.out⟩
  · have h5i : ¬ (ls.length : Int) < 5 := by omega
    have HB : Hid (bestV ls = if ls.any outS = true then 0 else (bst (fun k => absS (resN (fixC k) 0 ls)) 5).1) := by
      show _ = _
      unfold bestV
      rw [Nat.min_eq_left (by omega)]
    obtain ⟨bv, hbv⟩ : ∃ z, bestV ls = z := ⟨_, rfl⟩
    rw [hbv] at HB ⊢
    have Hbv := Lib.hid hbv
    clear hbv
    go_enter Tryd.func16, Tryd.ntmps16
    go_wp2_with fail
    go_loopw [3, 4, 16] (fun bv_ lv iv wr => ∃ k : Nat, k ≤ 5 ∧ iv = .int .i64 k ∧ bv_ = .int .i64 ((bst (fun k => absS (resN (fixC k) 0 ls)) k).1 : Nat) ∧ lv = .int .i64 (bst (fun k => absS (resN (fixC k) 0 ls)) k).2 ∧ (0 < k → ls.any outS = false) ∧ Hid (Below w.heap.size w wr)) (fun _ _ iv _ => 5 - (intOf iv).toNat)
    case atStart => exact ⟨0, by omega, rfl, rfl, rfl, fun h => by omega, Below.refl _ _⟩
    case round =>
      obtain ⟨k, hk, rfl, rfl, rfl, Han, Hb⟩ := hrel
      by_cases hkk : k < 5
      · have hk5 : k < 5 := by omega
        have hkl : k < ls.length := by omega
        have HX := Lib.hid (fun A' c' (W : World) hW hrd => HS.out k hk5 hkl A' c' W hW hrd)
        have HFx := Lib.hid (Fixed_ok k hk5 wr (HF.out.below Hb.out))
        have Hst : Hid (bst (fun k => absS (resN (fixC k) 0 ls)) (k + 1) = if (bst (fun k => absS (resN (fixC k) 0 ls)) k).2 < 0 ∨ absS (resN (fixC k) 0 ls) < (bst (fun k => absS (resN (fixC k) 0 ls)) k).2 then (k, absS (resN (fixC k) 0 ls)) else bst (fun k => absS (resN (fixC k) 0 ls)) k) := rfl
        generalize hb0 : (bst (fun k => absS (resN (fixC k) 0 ls)) k).1 = b0 at *
        have Hb0 := Lib.hid hb0
        clear hb0
        go_wp2_with fail
        refine HFx.out.mono ?_
        rintro e w3 ⟨A', c', rfl, hcc', hrd, hb3⟩
        have hb4 := bnext Hb.out hb3
        have hb5 := bal hb4 (.cells #[.int .i64 4, .int .i64 0, .slice A' k c'] 24)
        have HRd := Lib.hid (hrd.alloc (.cells #[.int .i64 4, .int .i64 0, .slice A' k c'] 24))
        have HX2 := Lib.hid (HX.out A' c' _ hb5 HRd.out)
        clear hrd HX HRd HFx hb3
        go_wp2_with fail
        cases han : ls.any outS with
        | true =>
          have HB2 : Hid (bv = 0) := by show _ = _; rw [HB.out, han]; rfl
          refine (HX2.out.1 han).mono ?_
          rintro e w5 ⟨rfl, hb6⟩
          have hb7 := bnext hb5 hb6
          go_wp2_with fail
          go_ret
          exact ⟨by rw [HB2.out]; rfl, hb7⟩
        | false =>
          have Hdb := Lib.hid (HD.out han k hk5)
          have Hdl : Hid ((resN (fixC k) 0 ls).length ≤ 1000) := by show _ ≤ _; rw [resN_length]; omega
          refine (HX2.out.2 han).mono ?_
          rintro e w5 ⟨v, rfl, Hown, hb6⟩
          obtain ⟨A9, c9, rfl, hc9, hr9⟩ := own_rd Hown.out
          have Hr9 := Lib.hid hr9
          have hb7 := Lib.hid (bnext hb5 hb6)
          have Hlv : Hid ((bst (fun k => absS (resN (fixC k) 0 ls)) k).2 = (bst (fun k => absS (resN (fixC k) 0 ls)) k).2) := rfl
          clear hr9 Hown HX2 hb6 hb5 hb4
          generalize resN (fixC k) 0 ls = d at *
          generalize hlv : (bst (fun k => absS (resN (fixC k) 0 ls)) k).2 = lv at *
          have HLV := Lib.hid hlv
          have Hdl1 := Hdl.out
          clear hlv Hlv
          go_wp2_with fail
          go_loop [10, 34] (fun sv iv => ∃ i : Nat, i ≤ d.length ∧ iv = .int .i64 i ∧ sv = .int .i64 (absS (d.take i))) (fun _ iv => d.length - (intOf iv).toNat)
          case atStart => exact ⟨0, by omega, rfl, rfl⟩
          case round =>
            obtain ⟨i, hi, rfl, rfl⟩ := hrel
            by_cases hii : i < d.length
            · obtain ⟨b9, o9, rfl, hc9⟩ := Hr9.out i (.int .i64 d[i]) (by simp [zv, hii])
              have Hsn : Hid (absS (d.take (i + 1)) = absS (d.take i) + absI d[i]) := by
                show _ = _
                rw [List.take_succ_eq_append_getElem hii, absS_snoc]
              have hsb := absS_bd (d.take i) 2256094780981248 fun x hx => Hdb.out x (List.mem_of_mem_take hx)
              rw [List.length_take, Nat.min_eq_left hi] at hsb
              have hxb := Hdb.out _ (List.getElem_mem hii)
              have Hab : Hid (∀ x : Int, absI x = if x < -x then -x else x) := fun _ => rfl
              have Hab := Lib.hid (Hab.out d[i])
              generalize absS (d.take i) = s0 at *
              generalize d[i] = x at *
              go_wp2_with fail
              go_round
              case rel => exact ⟨i + 1, by omega, by go_num, by rw [Hsn.out, Hab.out]⟩
              case measure => simp [intOf]; omega
            · obtain rfl : i = d.length := by omega
              have Htk : Hid (d.take d.length = d) := by show _ = _; rw [List.take_length]
              rw [Htk.out]
              clear Htk
              generalize absS d = s0 at *
              by_cases h1 : lv < 0
              · have Hst2 : Hid (bst (fun k => absS (resN (fixC k) 0 ls)) (k + 1) = (k, s0)) := by show _ = _; rw [Hst.out, if_pos (.inl h1)]
                go_wp2_with fail
                go_roundw
                case rel => exact ⟨k + 1, by omega, by go_num, by rw [Hst2.out], by rw [Hst2.out], fun _ => han, hb7.out⟩
                case measure => simp [intOf] <;> omega
              · by_cases h2 : s0 < lv
                · have Hst2 : Hid (bst (fun k => absS (resN (fixC k) 0 ls)) (k + 1) = (k, s0)) := by show _ = _; rw [Hst.out, if_pos (.inr h2)]
                  go_wp2_with fail
                  go_roundw
                  case rel => exact ⟨k + 1, by omega, by go_num, by rw [Hst2.out], by rw [Hst2.out], fun _ => han, hb7.out⟩
                  case measure => simp [intOf] <;> omega
                · have Hst2 : Hid (bst (fun k => absS (resN (fixC k) 0 ls)) (k + 1) = bst (fun k => absS (resN (fixC k) 0 ls)) k) := by show _ = _; rw [Hst.out, if_neg (fun h => by rcases h with h | h; exact h1 h; exact h2 h)]
                  go_wp2_with fail
                  go_roundw
                  case rel => exact ⟨k + 1, by omega, by go_num, by rw [Hst2.out, Hb0.out], by rw [Hst2.out, HLV.out], fun _ => han, hb7.out⟩
                  case measure => simp [intOf] <;> omega
      · obtain rfl : k = 5 := by omega
        have HB2 : Hid (bv = (bst (fun k => absS (resN (fixC k) 0 ls)) (5)).1) := by
          show _ = _
          rw [HB.out]
          by_cases h0 : 0 < 5
          · rw [if_neg (by rw [Han h0]; decide)]
          · have e : 5 = 0 := by omega
            rw [e]; simp [bst]
        generalize (bst (fun k => absS (resN (fixC k) 0 ls)) (5)).1 = q at *
        generalize (bst (fun k => absS (resN (fixC k) 0 ls)) (5)).2 = q2 at *
        go_wp2_with fail
        go_ret
        exact ⟨by rw [HB2.out]; rfl, Hb.out⟩
end Go.Proofs.YtghnjgemjiekgaaDoor
