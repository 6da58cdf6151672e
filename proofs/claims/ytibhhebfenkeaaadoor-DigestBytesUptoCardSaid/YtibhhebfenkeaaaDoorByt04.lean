/-
  digest.Bytes: its walk.
-/
import Derived.Test.YtibhhebfenkeaaaDoorRows
import Derived.Test.YtibhhebfenkeaaaDoorClone01
import Derived.BigQuiet
set_option pp.deepTerms true
set_option pp.maxSteps 100000
namespace Go.Proofs.YtibhhebfenkeaaaDoor
open Go.RowKit

/-- A slice of slices of numbers. -/
def ZZ (w : World) (A : Option Addr) (cs : List (List Int)) : Prop := ∃ vs : List Value, vs.length = cs.length ∧ Rd w A vs ∧ ∀ (j : Nat) (x : Value) (y : List Int), vs[j]? = some x → cs[j]? = some y → ∃ B c, x = .slice B y.length c ∧ y.length ≤ c ∧ Rd w B (zv y)
theorem ZZ.below {w w' : World} {A : Option Addr} {cs : List (List Int)} (h : ZZ w A cs) (hb : Below w.heap.size w w') : ZZ w' A cs := by
  obtain ⟨vs, h1, h2, h3⟩ := h
  refine ⟨vs, h1, h2.below hb, fun j x y hx hy => ?_⟩
  obtain ⟨B, c, e, hc, hr⟩ := h3 j x y hx hy
  exact ⟨B, c, e, hc, hr.below hb⟩
def okX (d : Nat) (x : Int) : Prop := -((2 ^ (d - 1) : Nat) : Int) ≤ x ∧ x < ((2 ^ (d - 1) : Nat) : Int)
instance (d : Nat) (x : Int) : Decidable (okX d x) := by unfold okX; infer_instance
/-- A sample's bytes. -/
def byX (d : Nat) (x : Int) : List UInt8 := (List.range ((d + 7) / 8)).map fun k => UInt8.ofNat (x / 2 ^ (8 * k) % 256).toNat
theorem byX_length (d : Nat) (x : Int) : (byX d x).length = (d + 7) / 8 := by simp [byX]
def rowX (cs : List (List Int)) (i : Nat) : List Int := cs.map fun c => c.getD i 0
/-- The samples ahead of the j-th channel's i-th. -/
def smX (cs : List (List Int)) (i j : Nat) : List Int := (List.range i).flatMap (rowX cs) ++ (rowX cs i).take j
def allX (cs : List (List Int)) : List Int := (List.range (cs.headD []).length).flatMap (rowX cs)
def outX (d : Nat) (l : List Int) : List UInt8 := l.flatMap (byX d)
theorem rowX_length (cs : List (List Int)) (i : Nat) : (rowX cs i).length = cs.length := by simp [rowX]
theorem smX_next (cs : List (List Int)) (i j : Nat) (h : j < cs.length) : smX cs i (j + 1) = smX cs i j ++ [cs[j].getD i 0] := by
  unfold smX
  rw [List.take_succ_eq_append_getElem (by rw [rowX_length]; exact h), List.append_assoc]
  simp [rowX]
theorem smX_row (cs : List (List Int)) (i : Nat) : smX cs i cs.length = smX cs (i + 1) 0 := by
  unfold smX
  rw [List.take_of_length_le (by rw [rowX_length]; omega), List.take_zero, List.append_nil, List.range_succ, List.flatMap_append]
  simp
theorem smX_all (cs : List (List Int)) : smX cs (cs.headD []).length 0 = allX cs := by simp [smX, allX]
theorem smX_length (cs : List (List Int)) (i j : Nat) (h : j ≤ cs.length) : (smX cs i j).length = i * cs.length + j := by
  unfold smX
  rw [List.length_append, List.length_take, rowX_length, Nat.min_eq_left h]
  congr 1
  induction i with
  | zero => simp
  | succ i ih => rw [List.range_succ, List.flatMap_append, List.length_append, ih]; simp [rowX_length, Nat.succ_mul]
theorem outX_length (d : Nat) (l : List Int) : (outX d l).length = l.length * ((d + 7) / 8) := by
  induction l with
  | nil => simp [outX]
  | cons x l ih =>
    have : outX d (x :: l) = byX d x ++ outX d l := by simp [outX]
    rw [this, List.length_append, ih, byX_length, List.length_cons, Nat.succ_mul]; omega
theorem outX_snoc (d : Nat) (l : List Int) (x : Int) : outX d (l ++ [x]) = outX d l ++ byX d x := by simp [outX]
theorem byX_next (d : Nat) (x : Int) (k : Nat) (h : k < (d + 7) / 8) : (byX d x).take (k + 1) = (byX d x).take k ++ [UInt8.ofNat (x / 2 ^ (8 * k) % 256).toNat] := by
  rw [List.take_succ_eq_append_getElem (by rw [byX_length]; exact h)]
  congr 2
  simp [byX]
theorem smX_mem (cs : List (List Int)) (i j : Nat) (hi : i < (cs.headD []).length) (hj : j < cs.length) : cs[j].getD i 0 ∈ allX cs := by
  unfold allX
  rw [List.mem_flatMap]
  exact ⟨i, List.mem_range.2 hi, List.mem_map.2 ⟨cs[j], List.getElem_mem hj, rfl⟩⟩
theorem headD_zero (cs : List (List Int)) (h : 0 < cs.length) : (cs.headD []).length = cs[0].length := by
  cases cs with
  | nil => simp at h
  | cons x cs => rfl
theorem u8_of (y : Int) : IntKind.u8.wrap y = (((UInt8.ofNat (y % 256).toNat).toNat : Nat) : Int) := by
  have h : ((UInt8.ofNat (y % 256).toNat).toNat : Int) = y % 256 := by
    simp
    omega
  rw [h]
  simp only [IntKind.wrap, IntKind.bits, IntKind.signed]
  simp
/-- May the arguments be? -/
def argX (depth : Int) (cs : List (List Int)) : Prop := 4 ≤ depth ∧ depth ≤ 32 ∧ 1 ≤ cs.length ∧ cs.length ≤ 8 ∧ ∀ c ∈ cs, c.length = (cs.headD []).length

set_option maxRecDepth 100000 in
set_option maxHeartbeats 4000000 in
theorem DB_any (depth : Int) (cs : List (List Int)) (A : Option Addr) (c : Nat) (w : World) (hB : ZZ w A cs) (hlen : ∀ x ∈ cs, x.length ≤ 1000000000000) (hcl : cs.length < 4611686018427387904) :
    Calls Tryd.prog 11 #[.int .i64 depth, .slice A cs.length c] w fun e w' => Below w.heap.size w w' ∧
      ((¬ argX depth cs ∧ e = .returned (.tuple #[.slice none 0 0, .int .i64 1])) ∨ (argX depth cs ∧ ¬ (∀ x ∈ allX cs, okX depth.toNat x) ∧ e = .returned (.tuple #[.slice none 0 0, .int .i64 10])) ∨
       (argX depth cs ∧ (∀ x ∈ allX cs, okX depth.toNat x) ∧ ∃ v, e = .returned (.tuple #[v, .int .i64 0]) ∧ Hid (w'.ownsRow w.heap.size 5 1 v (outX depth.toNat (allX cs)).length (bv (outX depth.toNat (allX cs)))))) := by
  have HZ := Lib.hid (fun W (h : Below w.heap.size w W) => hB.below h)
  by_cases g1 : depth < 4
  · have hn : ¬ argX depth cs := fun h => by have := h.1; omega
    have Hn := Lib.hid hn
    clear hn hB
    go_enter Tryd.func11, Tryd.ntmps11
    go_wp2_with fail
    go_ret2
    exact ⟨Below.refl _ _, .inl ⟨Hn.out, rfl⟩⟩
  by_cases g2 : depth > 32
  · have hn : ¬ argX depth cs := fun h => by have := h.2.1; omega
    have Hn := Lib.hid hn
    clear hn hB
    go_enter Tryd.func11, Tryd.ntmps11
    go_wp2_with fail
    go_ret2
    exact ⟨Below.refl _ _, .inl ⟨Hn.out, rfl⟩⟩
  by_cases g3 : (cs.length : Int) < 1
  · have hn : ¬ argX depth cs := fun h => by have := h.2.2.1; omega
    have Hn := Lib.hid hn
    clear hn hB
    go_enter Tryd.func11, Tryd.ntmps11
    go_wp2_with fail
    go_ret2
    exact ⟨Below.refl _ _, .inl ⟨Hn.out, rfl⟩⟩
  by_cases g4 : (cs.length : Int) > 8
  · have hn : ¬ argX depth cs := fun h => by have := h.2.2.2.1; omega
    have Hn := Lib.hid hn
    clear hn hB
    go_enter Tryd.func11, Tryd.ntmps11
    go_wp2_with fail
    go_ret2
    exact ⟨Below.refl _ _, .inl ⟨Hn.out, rfl⟩⟩
  obtain ⟨d, rfl⟩ : ∃ d : Nat, depth = d := ⟨depth.toNat, by omega⟩
  rw [Int.toNat_natCast]
  obtain ⟨vs, hvl, hrd, hx⟩ := hB
  obtain ⟨b, o, rfl, -⟩ := hrd.at_ (j := 0) (by omega)
  have HE : Hid (∀ (j : Nat) (hj : j < cs.length), ∃ B2 c2, cs[j].length ≤ c2 ∧ ∀ W, Below w.heap.size w W → W.cell? ⟨b, o + j, none⟩ = some (.slice B2 cs[j].length c2) ∧ Rd W B2 (zv cs[j])) := by
    intro j hj
    obtain ⟨B2, c2, e3, hc2, hr2⟩ := hx j vs[j] cs[j] (List.getElem?_eq_getElem (by omega)) (List.getElem?_eq_getElem hj)
    refine ⟨B2, c2, hc2, fun W h => ⟨?_, hr2.below h⟩⟩
    obtain ⟨b', o', e', hc'⟩ := (hrd.below h).at_ (j := j) (by omega)
    have e1 : b' = b ∧ o' = o := by simp at e'; exact ⟨e'.1.symm, e'.2.symm⟩
    rw [e1.1, e1.2, e3] at hc'
    exact hc'
  have h0c : 0 < cs.length := by omega
  have Hhd : Hid ((cs.headD []).length = cs[0].length) := by
    exact headD_zero cs h0c
  have Hlen := Lib.hid hlen
  clear hrd hx hvl hlen
  obtain ⟨B0, c0, hc0, hW0⟩ := HE.out 0 h0c
  have hcell0 := (hW0 w (Below.refl _ _)).1
  rw [← Hhd.out, Nat.add_zero] at hcell0
  have hN := Hlen.out _ (List.getElem_mem h0c)
  rw [← Hhd.out] at hN
  have harg : argX (d : Int) cs ↔ ∀ x ∈ cs, x.length = (cs.headD []).length := ⟨fun h => h.2.2.2.2, fun h => ⟨by omega, by omega, by omega, by omega, h⟩⟩
  have Harg := Lib.hid harg
  clear harg hc0 hW0
  obtain ⟨N, hNe⟩ : ∃ N, (cs.headD []).length = N := ⟨_, rfl⟩
  rw [hNe] at hcell0 hN Harg
  have HNe := Lib.hid hNe
  clear hNe
  go_enter Tryd.func11, Tryd.ntmps11
  go_wp2_with fail
  go_loopw [7, 31] (fun x7 i wr => ∃ j : Nat, j ≤ cs.length ∧ i = .int .i64 j ∧ (∀ t (h : t < j) (h2 : t < cs.length), cs[t].length = N) ∧ wr = w) (fun _ i _ => cs.length - (intOf i).toNat)
  case atStart => exact ⟨0, by omega, rfl, fun t h => absurd h (Nat.not_lt_zero _), rfl⟩
  case round =>
    obtain ⟨j, hj, rfl, hall, rfl⟩ := hrel
    by_cases hjj : j < cs.length
    · obtain ⟨B2, c2, hcc2, hW2⟩ := HE.out j hjj
      have hc2 := (hW2 wr (Below.refl _ _)).1
      clear hW2
      have hjI : (j : Int) < cs.length := by omega
      have hm := Hlen.out _ (List.getElem_mem hjj)
      obtain ⟨m, hme⟩ : ∃ m, cs[j].length = m := ⟨_, rfl⟩
      rw [hme] at hc2 hm
      have Hall := Lib.hid hall
      clear hall
      by_cases hmN : m = N
      · subst hmN
        have hq : ((m : Int) != (m : Int)) = false := by simp
        go_wp2_with fail
        go_roundw
        case rel =>
          refine ⟨j + 1, by omega, by go_num, fun t ht h2 => ?_, by first | rfl | trivial⟩
          by_cases h3 : t < j
          · exact Hall.out t h3 h2
          · obtain rfl : t = j := by omega
            exact hme
        case measure => simp [intOf] <;> omega
      · have hq : ((m : Int) != (N : Int)) = true := by rw [bne_iff_ne]; omega
        have Hn : Hid (¬ argX (d : Int) cs) := fun h => hmN (hme ▸ (Harg.out.1 h) _ (List.getElem_mem hjj))
        go_wp2_with fail
        go_ret2
        exact ⟨Below.refl _ _, .inl ⟨Hn.out, rfl⟩⟩
    · obtain rfl : j = cs.length := by omega
      have Hall : Hid (∀ t (h2 : t < cs.length), cs[t].length = N) := fun t h => hall t h h
      have Hyes : Hid (argX (d : Int) cs) := Harg.out.2 (fun x hx => by
        obtain ⟨t, ht, e⟩ := List.getElem_of_mem hx
        rw [← e]; exact Hall.out t ht)
      clear hall
      have HO := Lib.hid (World.ownsRow_nil wr wr.heap.size 5 1)
      obtain ⟨Lo, hLo⟩ : ∃ Lo : Nat, 2 ^ (d - 1) = Lo := ⟨_, rfl⟩
      have hLoI : (2 : Int) ^ (d - 1) = (Lo : Int) := by rw [← hLo]; simp
      have hLob : Lo ≤ 2147483648 := by rw [← hLo]; exact Nat.pow_le_pow_right (n := 2) (by omega) (show d - 1 ≤ 31 by omega)
      have hdn : ((d : Int) - 1).toNat = d - 1 := by omega
      have hd0 : (0 : Int) ≤ (d : Int) - 1 := by omega
      have hd64 : min (d - 1) 64 = d - 1 := by omega
      have Hok : Hid (∀ x, okX d x ↔ -(Lo : Int) ≤ x ∧ x < (Lo : Int)) := fun x => by unfold okX; rw [hLo]
      have HD : Hid (4 ≤ d ∧ d ≤ 32 ∧ 1 ≤ cs.length ∧ cs.length ≤ 8) := by refine ⟨?_, ?_, ?_, ?_⟩ <;> omega
      have hcs8 : (cs.length : Int) ≤ 8 := by omega
      clear hLo
      go_wp2_with fail
      obtain ⟨w1, rfl⟩ : ∃ w1 : World, w1 = wr := ⟨_, rfl⟩
      go_loopw [8, 9, 11, 12, 47, 52] (fun v x9 x11 x12 i x52 w2 => ∃ k : Nat, k ≤ N ∧ i = .int .i64 k ∧ Hid (∀ x ∈ smX cs k 0, okX d x) ∧ Hid (w2.ownsRow w1.heap.size 5 1 v (outX d (smX cs k 0)).length (bv (outX d (smX cs k 0)))) ∧ Hid (Below w1.heap.size w1 w2)) (fun _ _ _ _ i _ _ => N - (intOf i).toNat)
      case atStart => exact ⟨0, by omega, rfl, fun x hx => by simp [smX] at hx, HO.out, Below.refl _ _⟩
      case round =>
        clear HO
        obtain ⟨k, hk, rfl, Hall2, Hown2, Hb2⟩ := hrel
        by_cases hkN : k < N
        · have hkI : (k : Int) < N := by omega
          have hkz : (0 : Int) ≤ k := by omega
          have Hnext := Lib.hid (smX_row cs k)
          have Hj := Lib.hid (smX_next cs k)
          have Hl := Lib.hid (smX_length cs k)
          have Hmem := Lib.hid (fun j (h : j < cs.length) => smX_mem cs k j (by rw [HNe.out]; exact hkN) h)
          have Hbig : Hid (k * cs.length + cs.length ≤ 8000000000000) := by
            show _ ≤ _
            have h8 := HD.out.2.2.2
            have h9 : (k + 1) * cs.length ≤ 1000000000000 * 8 := Nat.mul_le_mul (by omega) h8
            rw [Nat.succ_mul] at h9
            omega
          go_wp2_with fail
          go_loopw [8, 11, 12, 52] (fun v x11 x12 i w3 => ∃ j : Nat, j ≤ cs.length ∧ i = .int .i64 j ∧ Hid (∀ x ∈ smX cs k j, okX d x) ∧ Hid (w3.ownsRow w1.heap.size 5 1 v (outX d (smX cs k j)).length (bv (outX d (smX cs k j)))) ∧ Hid (Below w1.heap.size w1 w3)) (fun _ _ _ i _ => cs.length - (intOf i).toNat)
          case atStart => exact ⟨0, by omega, rfl, Hall2.out, Hown2.out, Hb2.out⟩
          case round =>
            clear Hall2 Hown2 Hb2
            obtain ⟨j, hj, rfl, Hall3, Hown3, Hb3⟩ := hrel
            by_cases hjc : j < cs.length
            · have hjI : (j : Int) < cs.length := by omega
              have hjz : (0 : Int) ≤ j := by omega
              obtain ⟨B2, c2, hcc2, hW2⟩ := HE.out j hjc
              obtain ⟨hc2, hr2⟩ := hW2 wr Hb3.out
              have hlj := Hall.out j hjc
              rw [hlj] at hc2
              obtain ⟨b3, o3, rfl, hx3⟩ := hr2.at_ (j := k) (by rw [zv_length, hlj]; exact hkN)
              have e1 := zv_get cs[j] k (by rw [hlj]; exact hkN)
              rw [List.getElem?_eq_getElem (by rw [zv_length, hlj]; exact hkN)] at e1
              rw [Option.some.inj e1] at hx3
              have HX : Hid (∀ W, Below w1.heap.size w1 W → W.cell? ⟨b3, o3 + k, none⟩ = some (.int .i64 (cs[j][k]'(by rw [hlj]; exact hkN)))) := by
                intro W hW
                obtain ⟨b4, o4, e4, hx4⟩ := (hW2 W hW).2.at_ (j := k) (by rw [zv_length, hlj]; exact hkN)
                have e5 : b4 = b3 ∧ o4 = o3 := by simp at e4; exact ⟨e4.1.symm, e4.2.symm⟩
                rw [e5.1, e5.2, Option.some.inj e1] at hx4
                exact hx4
              clear e1 hr2 hcc2 hW2
              have hgd : cs[j].getD k 0 = cs[j][k]'(by rw [hlj]; exact hkN) := by rw [List.getD_eq_getElem?_getD, List.getElem?_eq_getElem (by rw [hlj]; exact hkN)]; rfl
              have hn3 := Hj.out j hjc
              have hm3 := Hmem.out j hjc
              rw [hgd] at hn3 hm3
              generalize cs[j][k]'(by rw [hlj]; exact hkN) = x at *
              have Hn3 := Lib.hid hn3
              have Hm3 := Lib.hid hm3
              have hlen3 := Hl.out j hj
              have Hok3 := Lib.hid (Hok.out x)
              generalize smX cs k j = S at *
              have Hlen3 := Lib.hid hlen3
              clear hn3 hm3 hlen3 hgd hlj
              have hw1 : IntKind.i64.wrap (-1 * (Lo : Int)) = -1 * (Lo : Int) := by rw [IntKind.wrap_i64]; omega
              have hw2 : IntKind.i64.wrap (1 * (Lo : Int)) = 1 * (Lo : Int) := by rw [IntKind.wrap_i64]; omega
              have hw3 : IntKind.i64.wrap (Lo : Int) = (Lo : Int) := by rw [IntKind.wrap_i64]; omega
              have hw4 : IntKind.i64.wrap (-(Lo : Int)) = -(Lo : Int) := by rw [IntKind.wrap_i64]; omega
              have hw5 : IntKind.i64.wrap ((d : Int) - 1) = (d : Int) - 1 := by rw [IntKind.wrap_i64]; omega
              by_cases hlow : x < -(Lo : Int)
              · have hbad : Hid (¬ ∀ x ∈ allX cs, okX d x) := fun h => by have := Hok3.out.1 (h _ Hm3.out); omega
                go_wp2_with fail
                go_quiet (fail)
                go_wp2_with fail
                go_ret2
                exact ⟨below_drewN Hb3.out _, .inr (.inl ⟨Hyes.out, hbad.out, rfl⟩)⟩
              by_cases hhigh : x ≥ (Lo : Int)
              · have hbad : Hid (¬ ∀ x ∈ allX cs, okX d x) := fun h => by have := Hok3.out.1 (h _ Hm3.out); omega
                go_wp2_with fail
                go_quiet (fail)
                go_wp2_with fail
                go_ret2
                exact ⟨below_drewN Hb3.out _, .inr (.inl ⟨Hyes.out, hbad.out, rfl⟩)⟩
              · have hokx : Hid (okX d x) := Hok3.out.2 (by omega)
                have HSn := Lib.hid (outX_snoc d S x)
                have HSl := Lib.hid (outX_length d S)
                have Hbn := Lib.hid (byX_next d x)
                have Hbl := Lib.hid (byX_length d x)
                have Hall4 : Hid (∀ y ∈ S ++ [x], okX d y) := by
                  intro y hy
                  rcases List.mem_append.1 hy with h | h
                  · exact Hall3.out y h
                  · simp at h; subst h; exact hokx.out
                obtain ⟨nb, hnb⟩ : ∃ nb, (d + 7) / 8 = nb := ⟨_, rfl⟩
                rw [hnb] at HSl Hbn Hbl
                have hnb8 : nb ≤ 4 ∧ ∀ m, m < nb ↔ 8 * m < d := by constructor <;> intros <;> omega
                have Hnb := Lib.hid hnb8
                clear hnb8 hnb
                have hSb : (outX d S).length ≤ 100000000000000 := by
                  rw [HSl.out, Hlen3.out]
                  have h1 : k * cs.length + j ≤ 8000000000000 := by have := Hbig.out; omega
                  have h2 := Hnb.out.1
                  calc (k * cs.length + j) * nb ≤ 8000000000000 * 4 := Nat.mul_le_mul h1 h2
                    _ ≤ _ := by omega
                have HSb := Lib.hid hSb
                clear hSb
                go_wp2_with fail
                go_quiet (fail)
                have Hbq := Lib.hid (below_drewN Hb3.out nq)
                have Hoq := Lib.hid (ownsRow_below Hown3.out (below_drewN (Below.refl _ _) nq))
                generalize wr.drewN nq = wq at *
                obtain ⟨w5, rfl⟩ : ∃ w5 : World, w5 = wq := ⟨_, rfl⟩
                have Hq0 : Hid (w5.ownsRow w1.heap.size 5 1 u8 (outX d S ++ (byX d x).take 0).length (bv (outX d S ++ (byX d x).take 0))) := by
                  show World.ownsRow _ _ _ _ _ _ _
                  rw [List.take_zero, List.append_nil]; exact Hoq.out
                go_wp2_with fail
                go_loopw [8, 12] (fun v i w6 => ∃ m : Nat, m ≤ nb ∧ i = .int .i64 ((8 * m : Nat) : Int) ∧ Hid (w6.ownsRow w1.heap.size 5 1 v (outX d S ++ (byX d x).take m).length (bv (outX d S ++ (byX d x).take m))) ∧ Hid (Below w1.heap.size w1 w6)) (fun _ i _ => 64 - (intOf i).toNat)
                case atStart => exact ⟨0, by omega, rfl, Hq0.out, Hbq.out⟩
                case round =>
                  clear Hq0
                  obtain ⟨m, hm, rfl, Hom, Hbm⟩ := hrel
                  obtain ⟨m8, hm8⟩ : ∃ m8, 8 * m = m8 := ⟨_, rfl⟩
                  have hmd := Hnb.out.2 m
                  by_cases hmm : m < nb
                  · have hm8d : (m8 : Int) < d := by have := hmd.1 hmm; omega
                    have hm80 : (0 : Int) ≤ (m8 : Int) := by omega
                    have hm864 : min m8 64 = m8 := by have := Hnb.out.1; omega
                    have hx6 : wr.cell? ⟨b3, o3 + k, none⟩ = some (.int .i64 x) := HX.out wr Hbm.out
                    have Hn6 := Lib.hid (Hbn.out m hmm)
                    have hl6 : (outX d S ++ (byX d x).take m).length ≤ 100000000000010 := by
                      rw [List.length_append, List.length_take, Hbl.out]
                      have := HSb.out; have := Hnb.out.1; omega
                    rw [hm8] at Hn6 ⊢
                    have hu := u8_of (x / 2 ^ m8)
                    have hlen6 : (outX d S ++ (byX d x).take (m + 1)).length = (outX d S ++ (byX d x).take m).length + 1 := by
                      rw [Hn6.out, ← List.append_assoc, List.length_append]; rfl
                    have hbv6 : bv (outX d S ++ (byX d x).take (m + 1)) = bv (outX d S ++ (byX d x).take m) ++ [.int .u8 ((UInt8.ofNat (x / 2 ^ m8 % 256).toNat).toNat : Int)] := by
                      rw [Hn6.out, ← List.append_assoc, bv_append]; rfl
                    have Hfin6 := Lib.hid (And.intro hlen6 hbv6)
                    clear hlen6 hbv6 hmd
                    generalize outX d S ++ (byX d x).take m = Lm at *
                    generalize ((UInt8.ofNat (x / 2 ^ m8 % 256).toNat).toNat : Int) = bt at *
                    have Hb6 := Hbm
                    have hsz6 := Hb6.out.size
                    have hm8s : (m8 : Int) ≤ 1000 := by omega
                    go_wp2_with (at_builtin; refine app1 (w0 := w1) (size := 1) (bytes := 1) rfl _ _ 22 rfl Tryd.underlying22 info_u8 rfl (by decide) rfl Hom.out (Nat.le_refl _) hsz6 Hb6.out rfl rfl (one_u8 _) (by omega) (by unfold maxLen; omega) ?_; intro v9 w9 own9 hb9 hs9; have Hown9 := Lib.hid own9; have Hb9 := Lib.hid hb9; clear own9 hb9)
                    go_roundw
                    case rel =>
                      refine ⟨m + 1, by omega, by congr 1; omega, ?_, Hb9.out⟩
                      rw [Hfin6.out.1, Hfin6.out.2]
                      exact Hown9.out
                    case measure => simp [intOf] <;> omega
                  · obtain rfl : m = nb := by omega
                    have hm8d : ¬ ((m8 : Int) < d) := by have := mt hmd.2 hmm; omega
                    rw [List.take_of_length_le (by rw [Hbl.out]; omega), ← HSn.out, ← Hn3.out] at Hom
                    rw [← Hn3.out] at Hall4
                    rw [hm8]
                    have Hb6 := Hbm
                    go_wp2_with fail
                    go_roundw
                    case rel => exact ⟨j + 1, by omega, by go_num, Hall4.out, Hom.out, Hb6.out⟩
                    case measure => simp [intOf] <;> omega
            · obtain rfl : j = cs.length := by omega
              rw [Hnext.out] at Hall3 Hown3
              go_wp2_with fail
              go_roundw
              case rel => exact ⟨k + 1, by omega, by go_num, Hall3.out, Hown3.out, Hb3.out⟩
              case measure => simp [intOf] <;> omega
        · obtain rfl : k = N := by omega
          have hsm := smX_all cs
          rw [HNe.out] at hsm
          rw [hsm] at Hall2 Hown2
          have hdn2 : ((d : Int)).toNat = d := Int.toNat_natCast d
          go_wp2_with fail
          go_ret2
          exact ⟨Hb2.out, .inr (.inr ⟨Hyes.out, Hall2.out, _, rfl, Hown2⟩)⟩
end Go.Proofs.YtibhhebfenkeaaaDoor
