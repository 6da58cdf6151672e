/-
  jetsamref04.Bytes: its walk.
-/
import Derived.Test.YtibhhebfenkeaaaDoorByt04
namespace Go.Proofs.YtibhhebfenkeaaaDoor
open Go.RowKit

set_option maxRecDepth 100000 in
set_option maxHeartbeats 4000000 in
theorem RB_any (d : Nat) (cs : List (List Int)) (A : Option Addr) (c : Nat) (w : World) (hB : ZZ w A cs) (harg : argX (d : Int) cs) (hN40 : (cs.headD []).length ≤ 1000000000000) :
    Calls Tryd.prog 12 #[.int .i64 d, .slice A cs.length c] w fun e w' => Below w.heap.size w w' ∧
      ((¬ (∀ x ∈ allX cs, okX d x) ∧ e = .returned (.tuple #[.slice none 0 0, .bool false])) ∨
       ((∀ x ∈ allX cs, okX d x) ∧ ∃ v, e = .returned (.tuple #[v, .bool true]) ∧ Hid (w'.ownsRow w.heap.size 5 1 v (outX d (allX cs)).length (bv (outX d (allX cs)))))) := by
  obtain ⟨g1, g2, g3, g4, heq⟩ := harg
  obtain ⟨vs, hvl, hrd, hx⟩ := hB
  obtain ⟨b, o, rfl, -⟩ := hrd.at_ (j := 0) (by omega)
  have HE : Hid (∀ (j : Nat) (hj : j < cs.length), ∃ B2 c2, cs[j].length ≤ c2 ∧ ∀ W, Below w.heap.size w W → W.cell? ⟨b, o + j, none⟩ = some (.slice B2 cs[j].length c2) ∧ Rd W B2 (zv cs[j])) := by
    intro j hj
    obtain ⟨B2, c2, e3, hc2, hr2⟩ := hx j vs[j] cs[j] (List.getElem?_eq_getElem (by omega)) (List.getElem?_eq_getElem hj)
    refine ⟨B2, c2, hc2, fun W h => ⟨?_, hr2.below h⟩⟩
    obtain ⟨b', o', e', hc'⟩ := (hrd.below h).at_ (j := j) (by omega)
    have e1 : b' = b ∧ o' = o := by simp at e'; exact ⟨e'.1.symm, e'.2.symm⟩
    rw [e1.1, e1.2, e3] at hc'
    exact hc'
  have h0c : 0 < cs.length := by omega
  have Hhd : Hid ((cs.headD []).length = cs[0].length) := by
    exact headD_zero cs h0c
  clear hrd hx hvl
  obtain ⟨B0, c0, hc0, hW0⟩ := HE.out 0 h0c
  have HC0 : Hid (∀ W, Below w.heap.size w W → W.cell? ⟨b, o, none⟩ = some (.slice B0 (cs.headD []).length c0)) := fun W h => by
    have q := (hW0 W h).1
    rw [← Hhd.out, Nat.add_zero] at q
    exact q
  have Hall : Hid (∀ t (h2 : t < cs.length), cs[t].length = (cs.headD []).length) := fun t h => heq _ (List.getElem_mem h)
  clear hc0 hW0 heq
  obtain ⟨N, hNe⟩ : ∃ N, (cs.headD []).length = N := ⟨_, rfl⟩
  rw [hNe] at HC0 hN40 Hall
  have HNe := Lib.hid hNe
  clear hNe
  have HO := Lib.hid (World.ownsRow_nil w w.heap.size 5 1)
  obtain ⟨Lo, hLo⟩ : ∃ Lo : Nat, 2 ^ (d - 1) = Lo := ⟨_, rfl⟩
  have hLoI : (2 : Int) ^ (d - 1) = (Lo : Int) := by rw [← hLo]; simp
  have hLob : Lo ≤ 2147483648 := by rw [← hLo]; exact Nat.pow_le_pow_right (n := 2) (by omega) (show d - 1 ≤ 31 by omega)
  have hdn : ((d : Int) - 1).toNat = d - 1 := by omega
  have hd0 : (0 : Int) ≤ (d : Int) - 1 := by omega
  have hd64 : min (d - 1) 64 = d - 1 := by omega
  have Hok : Hid (∀ x, okX d x ↔ -(Lo : Int) ≤ x ∧ x < (Lo : Int)) := fun x => by unfold okX; rw [hLo]
  have HD : Hid (4 ≤ d ∧ d ≤ 32 ∧ 1 ≤ cs.length ∧ cs.length ≤ 8) := by refine ⟨?_, ?_, ?_, ?_⟩ <;> omega
  have hcs8 : (cs.length : Int) ≤ 8 := by omega
  have hcs0 : (0 : Int) < cs.length := by omega
  have hz0 : (0 : Int) < (d : Int) := by omega
  clear hLo
  go_enter Tryd.func12, Tryd.ntmps12
  go_wp2_with fail
  obtain ⟨w1, rfl⟩ : ∃ w1 : World, w1 = w := ⟨_, rfl⟩
  go_loopw [6, 7, 8, 9, 10] (fun v i x8 x9 x10 w2 => ∃ k : Nat, k ≤ N ∧ i = .int .i64 k ∧ Hid (∀ x ∈ smX cs k 0, okX d x) ∧ Hid (w2.ownsRow w1.heap.size 5 1 v (outX d (smX cs k 0)).length (bv (outX d (smX cs k 0)))) ∧ Hid (Below w1.heap.size w1 w2)) (fun _ i _ _ _ _ => N - (intOf i).toNat)
  case atStart => exact ⟨0, by omega, rfl, fun x hx => by simp [smX] at hx, HO.out, Below.refl _ _⟩
  case round =>
    clear HO
    obtain ⟨k, hk, rfl, Hall2, Hown2, Hb2⟩ := hrel
    have hcell0 := HC0.out wr Hb2.out
    by_cases hkN : k < N
    · have hkI : (k : Int) < N := by omega
      have hkz : (0 : Int) ≤ k := by omega
      have Hnext := Lib.hid (smX_row cs k)
      have Hj := Lib.hid (smX_next cs k)
      have Hl := Lib.hid (smX_length cs k)
      have Hmem := Lib.hid (fun j (h : j < cs.length) => smX_mem cs k j (by rw [HNe.out]; exact hkN) h)
      have Hbig : Hid (k * cs.length + cs.length ≤ 8000000000000) := by
        show _ ≤ _
        have h8 := HD.out.2.2.2
        have h9 : (k + 1) * cs.length ≤ 1000000000000 * 8 := Nat.mul_le_mul (by omega) h8
        rw [Nat.succ_mul] at h9
        omega
      go_wp2_with fail
      go_loopw [6, 8, 9, 10] (fun v i x9 x10 w3 => ∃ j : Nat, j ≤ cs.length ∧ i = .int .i64 j ∧ Hid (∀ x ∈ smX cs k j, okX d x) ∧ Hid (w3.ownsRow w1.heap.size 5 1 v (outX d (smX cs k j)).length (bv (outX d (smX cs k j)))) ∧ Hid (Below w1.heap.size w1 w3)) (fun _ i _ _ _ => cs.length - (intOf i).toNat)
      case atStart => exact ⟨0, by omega, rfl, Hall2.out, Hown2.out, Hb2.out⟩
      case round =>
        clear Hall2 Hown2 Hb2 hcell0
        obtain ⟨j, hj, rfl, Hall3, Hown3, Hb3⟩ := hrel
        by_cases hjc : j < cs.length
        · have hjI : (j : Int) < cs.length := by omega
          have hjz : (0 : Int) ≤ j := by omega
          obtain ⟨B2, c2, hcc2, hW2⟩ := HE.out j hjc
          obtain ⟨hc2, hr2⟩ := hW2 wr Hb3.out
          have hlj := Hall.out j hjc
          rw [hlj] at hc2
          obtain ⟨b3, o3, rfl, hx3⟩ := hr2.at_ (j := k) (by rw [zv_length, hlj]; exact hkN)
          have e1 := zv_get cs[j] k (by rw [hlj]; exact hkN)
          rw [List.getElem?_eq_getElem (by rw [zv_length, hlj]; exact hkN)] at e1
          rw [Option.some.inj e1] at hx3
          clear e1 hr2 hcc2 hW2
          have hgd : cs[j].getD k 0 = cs[j][k]'(by rw [hlj]; exact hkN) := by rw [List.getD_eq_getElem?_getD, List.getElem?_eq_getElem (by rw [hlj]; exact hkN)]; rfl
          have hn3 := Hj.out j hjc
          have hm3 := Hmem.out j hjc
          rw [hgd] at hn3 hm3
          generalize cs[j][k]'(by rw [hlj]; exact hkN) = x at *
          have Hn3 := Lib.hid hn3
          have Hm3 := Lib.hid hm3
          have hlen3 := Hl.out j hj
          have Hok3 := Lib.hid (Hok.out x)
          generalize smX cs k j = S at *
          have Hlen3 := Lib.hid hlen3
          clear hn3 hm3 hlen3 hgd hlj
          have hw1 : IntKind.i64.wrap (-1 * (Lo : Int)) = -1 * (Lo : Int) := by rw [IntKind.wrap_i64]; omega
          have hw2 : IntKind.i64.wrap (1 * (Lo : Int)) = 1 * (Lo : Int) := by rw [IntKind.wrap_i64]; omega
          have hw3 : IntKind.i64.wrap (Lo : Int) = (Lo : Int) := by rw [IntKind.wrap_i64]; omega
          have hw4 : IntKind.i64.wrap (-(Lo : Int)) = -(Lo : Int) := by rw [IntKind.wrap_i64]; omega
          have hw5 : IntKind.i64.wrap ((d : Int) - 1) = (d : Int) - 1 := by rw [IntKind.wrap_i64]; omega
          by_cases hlow : x < -(Lo : Int)
          · have hbad : Hid (¬ ∀ x ∈ allX cs, okX d x) := fun h => by have := Hok3.out.1 (h _ Hm3.out); omega
            go_wp2_with fail
            go_ret2
            exact ⟨Hb3.out, .inl ⟨by first | exact hbad.out | (have q := hbad.out; simpa using q), rfl⟩⟩
          by_cases hhigh : x ≥ (Lo : Int)
          · have hbad : Hid (¬ ∀ x ∈ allX cs, okX d x) := fun h => by have := Hok3.out.1 (h _ Hm3.out); omega
            go_wp2_with fail
            go_ret2
            exact ⟨Hb3.out, .inl ⟨by first | exact hbad.out | (have q := hbad.out; simpa using q), rfl⟩⟩
          · have hokx : Hid (okX d x) := Hok3.out.2 (by omega)
            have HSn := Lib.hid (outX_snoc d S x)
            have HSl := Lib.hid (outX_length d S)
            have Hbn := Lib.hid (byX_next d x)
            have Hbl := Lib.hid (byX_length d x)
            have Hall4 : Hid (∀ y ∈ S ++ [x], okX d y) := by
              intro y hy
              rcases List.mem_append.1 hy with h | h
              · exact Hall3.out y h
              · simp at h; subst h; exact hokx.out
            obtain ⟨nb, hnb⟩ : ∃ nb, (d + 7) / 8 = nb := ⟨_, rfl⟩
            rw [hnb] at HSl Hbn Hbl
            have hnb8 : nb ≤ 4 ∧ ∀ m, m < nb ↔ 8 * m < d := by constructor <;> intros <;> omega
            have Hnb := Lib.hid hnb8
            clear hnb8 hnb
            have hSb : (outX d S).length ≤ 100000000000000 := by
              rw [HSl.out, Hlen3.out]
              have h1 : k * cs.length + j ≤ 8000000000000 := by have := Hbig.out; omega
              have h2 := Hnb.out.1
              calc (k * cs.length + j) * nb ≤ 8000000000000 * 4 := Nat.mul_le_mul h1 h2
                _ ≤ _ := by omega
            have HSb := Lib.hid hSb
            clear hSb
            obtain ⟨w5, rfl⟩ : ∃ w5 : World, w5 = wr := ⟨_, rfl⟩
            have Hq0 : Hid (w5.ownsRow w1.heap.size 5 1 u6 (outX d S ++ (byX d x).take 0).length (bv (outX d S ++ (byX d x).take 0))) := by
              show World.ownsRow _ _ _ _ _ _ _
              rw [List.take_zero, List.append_nil]; exact Hown3.out
            go_wp2_with fail
            go_loopw [6, 10] (fun v i w6 => ∃ m : Nat, m ≤ nb ∧ i = .int .i64 ((8 * m : Nat) : Int) ∧ Hid (w6.ownsRow w1.heap.size 5 1 v (outX d S ++ (byX d x).take m).length (bv (outX d S ++ (byX d x).take m))) ∧ Hid (Below w1.heap.size w1 w6)) (fun _ i _ => 64 - (intOf i).toNat)
            case atStart => exact ⟨0, by omega, rfl, Hq0.out, Hb3.out⟩
            case round =>
              clear Hq0
              obtain ⟨m, hm, rfl, Hom, Hbm⟩ := hrel
              obtain ⟨m8, hm8⟩ : ∃ m8, 8 * m = m8 := ⟨_, rfl⟩
              have hmd := Hnb.out.2 m
              by_cases hmm : m < nb
              · have hm8d : (m8 : Int) < d := by have := hmd.1 hmm; omega
                have hm80 : (0 : Int) ≤ (m8 : Int) := by omega
                have hm864 : min m8 64 = m8 := by have := Hnb.out.1; omega
                have Hn6 := Lib.hid (Hbn.out m hmm)
                have hl6 : (outX d S ++ (byX d x).take m).length ≤ 100000000000010 := by
                  rw [List.length_append, List.length_take, Hbl.out]
                  have := HSb.out; have := Hnb.out.1; omega
                rw [hm8] at Hn6 ⊢
                have hu := u8_of (x / 2 ^ m8)
                have hlen6 : (outX d S ++ (byX d x).take (m + 1)).length = (outX d S ++ (byX d x).take m).length + 1 := by
                  rw [Hn6.out, ← List.append_assoc, List.length_append]; rfl
                have hbv6 : bv (outX d S ++ (byX d x).take (m + 1)) = bv (outX d S ++ (byX d x).take m) ++ [.int .u8 ((UInt8.ofNat (x / 2 ^ m8 % 256).toNat).toNat : Int)] := by
                  rw [Hn6.out, ← List.append_assoc, bv_append]; rfl
                have Hfin6 := Lib.hid (And.intro hlen6 hbv6)
                clear hlen6 hbv6 hmd
                generalize outX d S ++ (byX d x).take m = Lm at *
                generalize ((UInt8.ofNat (x / 2 ^ m8 % 256).toNat).toNat : Int) = bt at *
                have Hb6 := Hbm
                have hsz6 := Hb6.out.size
                have hm8s : (m8 : Int) ≤ 1000 := by omega
                go_wp2_with (at_builtin; refine app1 (w0 := w1) (size := 1) (bytes := 1) rfl _ _ 22 rfl Tryd.underlying22 info_u8 rfl (by decide) rfl Hom.out (Nat.le_refl _) hsz6 Hb6.out rfl rfl (one_u8 _) (by omega) (by unfold maxLen; omega) ?_; intro v9 w9 own9 hb9 hs9; have Hown9 := Lib.hid own9; have Hb9 := Lib.hid hb9; clear own9 hb9)
                go_roundw
                case rel =>
                  refine ⟨m + 1, by omega, by congr 1; omega, ?_, Hb9.out⟩
                  rw [Hfin6.out.1, Hfin6.out.2]
                  exact Hown9.out
                case measure => simp [intOf] <;> omega
              · obtain rfl : m = nb := by omega
                have hm8d : ¬ ((m8 : Int) < d) := by have := mt hmd.2 hmm; omega
                rw [List.take_of_length_le (by rw [Hbl.out]; omega), ← HSn.out, ← Hn3.out] at Hom
                rw [← Hn3.out] at Hall4
                rw [hm8]
                have Hb6 := Hbm
                go_wp2_with fail
                go_roundw
                case rel => exact ⟨j + 1, by omega, by go_num, Hall4.out, Hom.out, Hb6.out⟩
                case measure => simp [intOf] <;> omega
        · obtain rfl : j = cs.length := by omega
          rw [Hnext.out] at Hall3 Hown3
          go_wp2_with fail
          go_roundw
          case rel => exact ⟨k + 1, by omega, by go_num, Hall3.out, Hown3.out, Hb3.out⟩
          case measure => simp [intOf] <;> omega
    · obtain rfl : k = N := by omega
      have hsm := smX_all cs
      rw [HNe.out] at hsm
      rw [hsm] at Hall2 Hown2
      go_wp2_with fail
      go_ret2
      exact ⟨Hb2.out, .inr ⟨Hall2.out, _, rfl, Hown2⟩⟩
end Go.Proofs.YtibhhebfenkeaaaDoor
