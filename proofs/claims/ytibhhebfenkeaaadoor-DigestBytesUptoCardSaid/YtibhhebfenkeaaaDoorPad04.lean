/-
  jetsamref04.Padded: its walk.
-/
import Derived.Test.YtibhhebfenkeaaaDoorRef04
import Derived.Test.YtibhhebfenkeaaaDoorAppN
set_option pp.deepTerms true
set_option pp.maxSteps 100000
namespace Go.Proofs.YtibhhebfenkeaaaDoor
open Go.RowKit

set_option maxRecDepth 100000 in
set_option maxHeartbeats 4000000 in
theorem Padded_any (l : List UInt8) (A : Option Addr) (c : Nat) (w : World) (hr : Rd w A (bv l)) (hn : A = none → c = 0) (hlen : l.length ≤ 90000) :
    Calls Tryd.prog 18 #[.slice A l.length c] w fun e w' => ∃ v, e = .returned v ∧ Hid (w'.ownsRow w.heap.size 5 1 v (padd l).length (bv (padd l))) ∧ Below w.heap.size w w' := by
  have Hr := Lib.hid hr
  have Hn := Lib.hid hn
  have Hone := Lib.hid (bv_one l)
  have Hl := Lib.hid (bv_length l)
  have HO := Lib.hid (World.ownsRow_nil w w.heap.size 5 1)
  have hpz : padZ l.length < 64 := by unfold padZ; omega
  clear hr hn
  go_enter Tryd.func18, Tryd.ntmps18
  go_upto_region 3 with (at_builtin; refine appN (w0 := w) (base := w.heap.size) rfl _ _ 22 rfl Tryd.underlying22 info_u8 rfl rfl HO.out (Nat.le_refl _) (Nat.le_refl _) (Below.refl _ _) rfl Hr.out Hl.out Hn.out Hone.out (by omega) (by unfold maxLen; omega) ?_; intro v1 w6 own1 hb6 hs6 hnil6; rw [List.nil_append, Nat.zero_add] at own1; have Hown1 := Lib.hid own1; have Hb6 := Lib.hid hb6; clear own1 hb6 hnil6)
  go_upto_region 4 with (at_builtin; refine app1 (w0 := w) (size := 1) (bytes := 1) rfl _ _ 22 rfl Tryd.underlying22 info_u8 rfl (by decide) rfl Hown1.out (Nat.le_refl _) hs6 Hb6.out rfl rfl (one_u8 _) (by omega) (by unfold maxLen; omega) ?_; intro v2 w7 own2 hb7 hs7; have Hown2 := Lib.hid own2; have Hb7 := Lib.hid hb7; clear own2 hb7)
  have Hown3 : Hid (w7.ownsRow w.heap.size 5 1 v2 (l.length + 1) (bv (l ++ [128] ++ List.replicate 0 0))) := by
    show World.ownsRow _ _ _ _ _ _ _
    rw [List.replicate_zero, List.append_nil, bv_append]
    exact Hown2.out
  clear Hown1 Hb6 Hown2 hs6
  go_wp2_with fail
  go_loopw [3] (fun v wr => ∃ j : Nat, j ≤ padZ l.length ∧ Hid (wr.ownsRow w.heap.size 5 1 v (l.length + 1 + j) (bv (l ++ [128] ++ List.replicate j 0))) ∧ Hid (Below w.heap.size w wr)) (fun v _ => (120 - slLen (some v) % 64) % 64)
  case atStart => exact ⟨0, by omega, Hown3.out, Hb7.out⟩
  case round =>
    clear Hown3 Hb7 hs7
    obtain ⟨j, hj, Hown, Hb⟩ := hrel
    obtain ⟨A3, c3, e3, hc3, hr3, hn3⟩ := own_nilcap Hown.out
    subst e3
    have hpa := pad_at l.length j hj
    have hlI : (((l.length + 1 + j : Nat) : Int)) ≤ 100000 := by omega
    by_cases hjj : j < padZ l.length
    · have hq : ((((l.length + 1 + j : Nat) : Int)) % 64 != 56) = true := by rw [bne_iff_ne]; have := hpa.2 hjj; omega
      have hmod : (l.length + 1 + j) % 64 ≠ 56 := hpa.2 hjj
      have Hmod := Lib.hid hmod
      clear hmod hpa hr3 hn3
      obtain ⟨n, hn⟩ : ∃ n, l.length + 1 + j = n := ⟨_, rfl⟩
      rw [hn] at hq Hown Hmod hlI ⊢
      have Hnn := Lib.hid hn
      clear hn
      have hsz := Hb.out.size
      have hn9 : n ≤ 100000 := by omega
      go_wp2_with (at_builtin; refine app1 (w0 := w) (size := 1) (bytes := 1) rfl _ _ 22 rfl Tryd.underlying22 info_u8 rfl (by decide) rfl Hown.out (Nat.le_refl _) hsz Hb.out rfl rfl (one_u8 _) (by omega) (by unfold maxLen; omega) ?_; intro v9 w9 own9 hb9 hs9; have Hown9 := Lib.hid own9; have Hb9 := Lib.hid hb9; clear own9 hb9)
      go_roundw
      case rel =>
        refine ⟨j + 1, by omega, ?_, Hb9.out⟩
        have h := Hown9.out
        rw [List.replicate_succ', ← List.append_assoc, bv_append, show l.length + 1 + (j + 1) = n + 1 from by have := Hnn.out; omega]
        exact h
      case measure =>
        obtain ⟨A9, c9, e9, -⟩ := own_nilcap Hown9.out
        subst e9
        show (120 - (n + 1) % 64) % 64 < (120 - n % 64) % 64
        have := Hmod.out
        omega
    · obtain rfl : j = padZ l.length := by omega
      have hmod : (l.length + 1 + padZ l.length) % 64 = 56 := by
        by_cases h : (l.length + 1 + padZ l.length) % 64 = 56
        · exact h
        · exact absurd (hpa.1 h) (Nat.lt_irrefl _)
      have hq : ((((l.length + 1 + padZ l.length : Nat) : Int)) % 64 != 56) = false := by rw [bne_eq_false_iff_eq]; omega
      have hpd : l ++ [128] ++ List.replicate (padZ l.length) 0 ++ lenB l.length = padd l := rfl
      have hpl := padd_length l
      obtain ⟨L1, hL1⟩ : ∃ L1, l ++ [128] ++ List.replicate (padZ l.length) 0 = L1 := ⟨_, rfl⟩
      rw [hL1] at Hown hpd
      obtain ⟨n, hn⟩ : ∃ n, l.length + 1 + padZ l.length = n := ⟨_, rfl⟩
      rw [hn] at Hown hq hlI ⊢
      have Hpd := Lib.hid hpd
      have Hpl : Hid ((padd l).length = n + 8) := by show _ = _; omega
      have hn9 : n ≤ 100000 := by omega
      have Hown0 : Hid (wr.ownsRow w.heap.size 5 1 (.slice A3 n c3) (n + 0) (bv (L1 ++ (lenB l.length).take 0))) := by
        show World.ownsRow _ _ _ _ _ _ _
        rw [List.take_zero, List.append_nil]; exact Hown.out
      have hu1 : IntKind.u64.wrap (l.length : Int) = (l.length : Int) := u64_wrap2 l.length (by omega)
      have hu2 : IntKind.u64.wrap ((l.length : Int) * 8) = (l.length : Int) * 8 := by have := u64_wrap2 (l.length * 8) (by omega); rwa [Int.natCast_mul, Int.cast_ofNat_Int] at this
      clear hpd hL1 hn hmod hpa hpl hr3 hn3 Hown
      obtain ⟨wo, rfl⟩ : ∃ wo : World, wo = wr := ⟨_, rfl⟩
      go_wp2_with fail
      go_loopw [3, 5] (fun v i w2 => ∃ j : Nat, j ≤ 8 ∧ i = .int .i64 j ∧ Hid (w2.ownsRow w.heap.size 5 1 v (n + j) (bv (L1 ++ (lenB l.length).take j))) ∧ Hid (Below w.heap.size w w2)) (fun _ i _ => 8 - (intOf i).toNat)
      case atStart => exact ⟨0, by omega, rfl, Hown0.out, Hb.out⟩
      case round =>
        clear Hown0 Hb
        obtain ⟨j, hj, rfl, Hown, Hb⟩ := hrel
        by_cases hjj : j < 8
        · have hj8 : (j : Int) < 8 := by omega
          have hj0 : (0 : Int) ≤ 8 * (j : Int) := by omega
          have hjn : (8 * (j : Int)).toNat = 8 * j := by omega
          have hj64 : min (8 * j) 64 = 8 * j := by omega
          have hu3 := u8_wrap (8 * l.length / 2 ^ (8 * j))
          rw [Int.natCast_ediv, Int.natCast_pow, Int.cast_ofNat_Int, Int.natCast_mul, Int.cast_ofNat_Int, Int.mul_comm] at hu3
          have hxx : (UInt8.ofNat (8 * l.length / 2 ^ (8 * j))).toNat = 8 * l.length / 2 ^ (8 * j) % 256 := by simp
          have Hnx : Hid (bv (L1 ++ (lenB l.length).take (j + 1)) = bv (L1 ++ (lenB l.length).take j) ++ [.int .u8 ((8 * l.length / 2 ^ (8 * j) % 256 : Nat) : Int)]) := by
            show _ = _
            rw [lenB_take _ _ hjj, ← List.append_assoc, bv_append _ [_]]
            unfold bv
            simp only [List.map_cons, List.map_nil, hxx]
          clear hxx
          generalize 8 * l.length / 2 ^ (8 * j) % 256 = bt at *
          have hsz := Hb.out.size
          go_wp2_with (at_builtin; refine app1 (w0 := w) (size := 1) (bytes := 1) rfl _ _ 22 rfl Tryd.underlying22 info_u8 rfl (by decide) rfl Hown.out (Nat.le_refl _) hsz Hb.out rfl rfl (one_u8 _) (by omega) (by unfold maxLen; omega) ?_; intro v9 w9 own9 hb9 hs9; have Hown9 := Lib.hid own9; have Hb9 := Lib.hid hb9; clear own9 hb9)
          go_roundw
          case rel =>
            refine ⟨j + 1, by omega, by go_num, ?_, Hb9.out⟩
            rw [Hnx.out]
            exact Hown9.out
          case measure => simp [intOf] <;> omega
        · obtain rfl : j = 8 := by omega
          have hf := Hown.out
          rw [List.take_of_length_le (by rw [lenB_length]; omega), Hpd.out, ← Hpl.out] at hf
          have Hf := Lib.hid hf
          clear hf
          go_wp2_with fail
          go_ret
          exact ⟨_, rfl, Hf, Hb.out⟩
end Go.Proofs.YtibhhebfenkeaaaDoor
