/-
  sums.Meter: Many; what a nil one answers; jetsamlaw02.SumsMeter: its walk.
  The arguments of a law, opened: what the walks are told of them.
  An argument that is a slice of slices of numbers, opened.
  An argument of type [][]byte, opened as BSS.
-/
import Derived.Test.YtjfjkmbokiinbaaSm2
import Derived.Test.YtjfjkmbokiinbaaSm1
import Derived.ProofKit
import Derived.OpenShut
import Derived.ShutString
import Derived.ChangeOld
import Derived.Deep.Slices
set_option linter.unusedSimpArgs false
set_option linter.unusedVariables false
namespace Go.Proofs.Ytjfjkmbokiinbaa
open Go.RowKit

theorem Many_nil (w : World) : Calls Try.prog 19 #[.pointer none] w fun e w' => e = .returned (.tuple #[.int .i64 0, .int .i64 0]) ∧ w' = w := by
  go_enter Try.func19, Try.ntmps19
  go_wp2_with fail
  go_ret2
  exact ⟨rfl, rfl⟩
theorem MSum_nil (A : Option Addr) (n c : Nat) (w : World) : Calls Try.prog 18 #[.pointer none, .slice A n c] w fun e w' => e = .returned (.int .i64 0) ∧ Below w.heap.size w w' := by
  go_enter Try.func18, Try.ntmps18
  go_wp2_with fail
  go_ret
  exact ⟨rfl, bal (Below.refl _ _) _⟩
set_option maxRecDepth 100000 in
set_option maxHeartbeats 1600000 in
theorem Many_any (M : Nat) (T : Nat → Nat) (b t d s : Int) (w : World) (H : Mt w M T b t d s) : Calls Try.prog 19 #[.pointer (some ⟨M, 0, none⟩)] w fun e w' => e = .returned (.tuple #[.int .i64 b, .int .i64 t]) ∧ Below w.heap.size w w' := by
  have HL1 : Hid (∀ W, Below w.heap.size w W → Calls Try.prog 31 #[.pointer (some ⟨M, 259, none⟩)] W fun e w' => e = .returned (.int .i64 b) ∧ w' = W) := fun W hb => Load_any _ _ _ (H.below hb).cb
  have HL2 : Hid (∀ W, Below w.heap.size w W → Calls Try.prog 31 #[.pointer (some ⟨M, 260, none⟩)] W fun e w' => e = .returned (.int .i64 t) ∧ w' = W) := fun W hb => Load_any _ _ _ (H.below hb).ct
  clear H
  go_enter Try.func19, Try.ntmps19
  go_upto_region 3 with fail
  go_region_with (first | (go_at_call 31; refine (HL1.out _ (Below.refl _ _).drew).mono ?_; rintro e wx ⟨rfl, rfl⟩) | (go_at_call 31; refine (HL2.out _ (Below.refl _ _).drew).mono ?_; rintro e wx ⟨rfl, rfl⟩))
  all_goals (go_simp; go_wp2_with fail; go_ret2; exact ⟨rfl, (Below.refl _ _).drew⟩)

set_option maxRecDepth 100000 in
set_option maxHeartbeats 4000000 in
theorem meter_walk (ls : List (List UInt8)) (A : Option Addr) (c : Nat) (many : Int) (w : World) (hv : BSS w (.slice A ls.length c) ls) :
    Calls Try.prog 8 #[.slice A ls.length c, .int .i64 many] w fun e w' => e = .returned (.bool true) ∧ Below w.heap.size w w' := by
  have HV := Lib.hid hv
  by_cases h1 : (20 : Int) < ls.length
  · clear hv
    go_enter Try.func8, Try.ntmps8
    go_wp2_with fail
    (refine (awake_any _).mono ?_; rintro e w9 ⟨rfl, hb9⟩; go_wp2_with fail; go_ret; exact ⟨rfl, by repeat (first | exact Below.refl _ _ | assumption | refine below_drewN ?_ _ | refine Below.drew ?_ | refine Below.alloc ?_ (Nat.le_refl _) _ | refine bal ?_ _ | refine bnext ?_ (by assumption))⟩)
  by_cases h2 : many < 0
  · clear hv
    go_enter Try.func8, Try.ntmps8
    go_wp2_with fail
    (refine (awake_any _).mono ?_; rintro e w9 ⟨rfl, hb9⟩; go_wp2_with fail; go_ret; exact ⟨rfl, by repeat (first | exact Below.refl _ _ | assumption | refine below_drewN ?_ _ | refine Below.drew ?_ | refine Below.alloc ?_ (Nat.le_refl _) _ | refine bal ?_ _ | refine bnext ?_ (by assumption))⟩)
  by_cases h3 : 8 < many
  · clear hv
    go_enter Try.func8, Try.ntmps8
    go_wp2_with fail
    (refine (awake_any _).mono ?_; rintro e w9 ⟨rfl, hb9⟩; go_wp2_with fail; go_ret; exact ⟨rfl, by repeat (first | exact Below.refl _ _ | assumption | refine below_drewN ?_ _ | refine Below.drew ?_ | refine Below.alloc ?_ (Nat.le_refl _) _ | refine bal ?_ _ | refine bnext ?_ (by assumption))⟩)
  obtain ⟨many, rfl⟩ := Int.eq_ofNat_of_zero_le (show 0 ≤ many by omega)
  obtain ⟨A', c', vs, he, hc, hr, hl, hx⟩ := hv
  obtain ⟨rfl, -, rfl⟩ : A = A' ∧ True ∧ c = c' := by injection he with h1 h2 h3; exact ⟨h1, trivial, h3⟩
  have Hl := Lib.hid hl; clear hl he
  have Hx := Lib.hid hx; clear hx
  have Hr := Lib.hid hr; clear hr
  have HM8 : Hid (many ≤ 8) := Lib.hid (by omega)
  have HL20 : Hid (ls.length ≤ 20) := Lib.hid (by omega)
  go_enter Try.func8, Try.ntmps8
  go_wp2_with fail
  go_loopw [5, 6] (fun n i wr => ∃ j : Nat, j ≤ ls.length ∧ i = .int .i64 j ∧ n = .int .i64 (tot (ls.take j) : Nat) ∧ (∀ l ∈ ls.take j, l.length ≤ 200) ∧ wr = w) (fun _ i _ => ls.length - (intOf i).toNat)
  case atStart => exact ⟨0, by omega, rfl, by simp [tot], by simp, rfl⟩
  case round =>
    obtain ⟨j, hj, rfl, rfl, hk, rfl⟩ := hrel
    have Hk := Lib.hid hk
    have htj : tot (ls.take j) ≤ 20 * 200 := Nat.le_trans (tot_le (ls.take j) 200 hk) (Nat.mul_le_mul_right 200 (by rw [List.length_take]; omega))
    clear hk
    by_cases hjj : j < ls.length
    · have hjv : j < vs.length := by have := Hl.out; omega
      obtain ⟨bb, o, rfl, hcell⟩ := Hr.out.at_ hjv
      obtain ⟨A1, c1, e1, hc1', hr1⟩ := Hx.out j vs[j] ls[j] (List.getElem?_eq_getElem hjv) (List.getElem?_eq_getElem hjj)
      rw [e1] at hcell
      have Hts := Lib.hid (tot_snoc ls j hjj)
      have Hk2 : Hid (ls[j].length ≤ 200 → ∀ l ∈ ls.take (j + 1), l.length ≤ 200) := fun h l hl => by
        rw [List.take_succ_eq_append_getElem hjj] at hl
        rcases List.mem_append.1 hl with h' | h'
        · exact Hk.out l h'
        · simp at h'; subst h'; exact h
      clear e1 hr1 hc1' Hk
      generalize ls[j] = lb at *
      generalize tot (ls.take j) = tj at *
      by_cases hlb : (200 : Int) < lb.length
      · go_wp2_with fail
        (refine (awake_any _).mono ?_; rintro e w9 ⟨rfl, hb9⟩; go_wp2_with fail; go_ret; exact ⟨rfl, by repeat (first | exact Below.refl _ _ | assumption | refine below_drewN ?_ _ | refine Below.drew ?_ | refine Below.alloc ?_ (Nat.le_refl _) _ | refine bal ?_ _ | refine bnext ?_ (by assumption))⟩)
      · go_wp2_with fail
        go_roundw
        case rel => exact ⟨j + 1, by omega, by go_num, by rw [Hts.out]; go_num, Hk2.out (by omega), by first | rfl | trivial⟩
        case measure => simp [intOf] <;> omega
    · obtain rfl : j = ls.length := by omega
      rw [List.take_of_length_le (Nat.le_refl _)] at Hk htj
      generalize hN : tot ls = N at *
      have HN := Lib.hid hN
      clear hN
      rw [List.take_of_length_le (Nat.le_refl _), HN.out]
      go_wp2_with fail
      refine (NewMeter_any _).mono ?_
      rintro e w1 ⟨rfl, hM, hb⟩
      have HM := Lib.hid hM
      have Hb := Lib.hid hb
      clear hM hb
      obtain ⟨wo, rfl⟩ : ∃ wo : World, wo = wr := ⟨_, rfl⟩
      obtain ⟨M, hM⟩ : ∃ M, wo.heap.size = M := ⟨_, rfl⟩
      have hMle : wo.heap.size ≤ M := by omega
      rw [hM] at HM ⊢
      clear hM
      go_wp2_with fail
      go_loopw [9] (fun i w2 => ∃ j : Nat, j ≤ many ∧ i = .int .i64 j ∧ Hid (∃ (T : Nat → Nat) (d : Int), Mt w2 M T ((j * N : Nat) : Int) j d 0 ∧ (d = 0 ∨ d = 1 ∧ ∀ x, x < 256 → T x = one16 x)) ∧ Hid (Below wo.heap.size wo w2)) (fun i _ => many - (intOf i).toNat)
      case atStart => exact ⟨0, by omega, rfl, ⟨_, 0, by simpa using HM.out, .inl rfl⟩, Hb⟩
      case round =>
        obtain ⟨j, hj, rfl, HMj, Hbj⟩ := hrel
        clear HM Hb
        have hjN : j * N ≤ 8 * (20 * 200) := Nat.mul_le_mul (by have := HM8.out; omega) htj
        by_cases hjj : j < many
        · obtain ⟨T, d, hMt, hd⟩ := HMj.out
          have HS := Lib.hid (MSum_any M T ((j * N : Nat) : Int) j d ls A c wo _ HV.out HL20.out Hk.out Hbj.out hMle hMt hd (by omega) (by omega) (by omega) (by have := HM8.out; omega))
          have HS2 := Lib.hid (fun W (hb : Below wo.heap.size wo W) => Sum16_any ls A c W (HV.out.below hb) (by have := HL20.out; omega) (fun l hl => by have := Hk.out l hl; omega))
          rw [HN.out] at HS
          generalize crc16 0 ls.flatten = X at *
          clear hMt hd HMj
          have Hbj2 : Hid (((j * N : Nat) : Int) + (N : Nat) = (((j + 1) * N : Nat) : Int)) := by
            show _ = _
            rw [Nat.succ_mul]; omega
          generalize ((j * N : Nat) : Int) = b at *
          clear hjN
          go_wp2_with fail
          refine HS.out.mono ?_
          rintro e w3 ⟨rfl, hM3, hb3⟩
          have HM3 := Lib.hid hM3
          have Hb3 := Lib.hid hb3
          clear hM3 hb3 HS
          go_wp2_with fail
          refine (HS2.out _ Hb3.out).mono ?_
          rintro e w4 ⟨rfl, hb4⟩
          have HM4 := Lib.hid (HM3.out.below hb4)
          have Hb4 := Lib.hid (bnext Hb3.out hb4)
          clear HM3 Hb3 hb4 HS2
          go_wp2_with fail
          go_roundw
          case rel =>
            refine ⟨j + 1, by omega, by go_num, ⟨one16, 1, ?_, .inr ⟨rfl, fun _ _ => rfl⟩⟩, Hb4⟩
            rw [← Hbj2.out]
            exact HM4.out
          case measure => simp [intOf] <;> omega
        · obtain rfl : j = many := by omega
          obtain ⟨T, d, hMt, hd⟩ := HMj.out
          have HMa := Lib.hid (Many_any M T ((j * N : Nat) : Int) j d 0 _ hMt)
          obtain ⟨P, hP⟩ : ∃ P : Nat, j * N = P := ⟨_, rfl⟩
          have hPi : (N : Int) * (j : Int) = (P : Int) := by rw [← hP, Nat.mul_comm]; simp
          rw [hP] at HMa
          have hP2 : P ≤ 32000 := by omega
          clear hMt hd HMj hjN hP htj
          go_wp2_with fail
          refine HMa.out.mono ?_
          rintro e w3 ⟨rfl, hb3⟩
          have Hb3 := Lib.hid (bnext Hbj.out hb3)
          clear HMa hb3
          go_wp2_with fail
          refine (Many_nil _).mono ?_
          rintro e w4 ⟨rfl, rfl⟩
          go_wp2_with fail
          refine (MSum_nil A ls.length c _).mono ?_
          rintro e w5 ⟨rfl, hb5⟩
          have Hb5 := Lib.hid (bnext Hb3.out hb5)
          clear hb5
          go_wp2_with fail
          refine (awake_any _).mono ?_
          rintro e w9 ⟨rfl, hb9⟩
          have Hb9 := Lib.hid (bnext Hb5.out hb9)
          clear hb9
          go_wp2_with fail
          go_ret
          exact ⟨rfl, Hb9.out⟩
end Go.Proofs.Ytjfjkmbokiinbaa

namespace Go.Proofs.Ytjfjkmbokiinbaa
open Go.ChangeShapes Go.WideShapes Go.ChangeAt Go.RowKit

section
variable {H : Type} {enc : TypeId × Value → H} {P : Program} {W : World} {base : Nat} {spare : Nat → Bool} {held : Bool}

theorem add_block (x : Addr) (i : Nat) : (x.add i).block = x.block := by unfold Addr.add; split <;> rfl

/-- Cells from an address on, read as values. -/
theorem rd_of_cells {x : Addr} {xs : List Value} (h : ∀ i, i < xs.length → W.cell? (x.add i) = xs[i]?) : Rd W (some x) xs := by
  intro j u hu
  have hj : j < xs.length := (List.getElem?_eq_some_iff.1 hu).1
  obtain ⟨b, o, sp⟩ := x
  have h0 := h 0 (by omega)
  rw [List.getElem?_eq_getElem (by omega)] at h0
  have hs : sp = none := by simpa [Addr.add] using World.cell?_spot h0
  subst hs
  refine ⟨b, o, rfl, ?_⟩
  have := h j hj
  rw [hu] at this
  rw [← this]
  unfold Addr.add
  split <;> simp_all

theorem open_int_list {k : IntKind} {t e : TypeId} (ht : P.underlying t = some (.slice e)) (he : P.underlying e = some (.int k)) (hc : P.cellsOf e = 1)
    {A : Option Addr} {n c : Nat} {d : DataW H} {p : List MemPlace} (h : DataW.Trod enc P W base spare held t (.slice A n c) d p) :
    ∃ l : List Int, n = l.length ∧ n ≤ c ∧ c ≤ maxLen ∧ Rd W A (l.map (Value.int k)) ∧ ∀ z ∈ l, (Lit.int k z).wf = true := by
  obtain ⟨fuel, hf⟩ := h
  rcases open_ints ht he hc hf with ⟨hcs, _⟩ | ⟨x, l, cc, zs, hcs, _, hl, hm, hz, _, hcell, hwz⟩
  · simp [Value.cells] at hcs
    obtain ⟨rfl, rfl, rfl⟩ := hcs
    exact ⟨[], rfl, Nat.le_refl _, Nat.zero_le _, Rd.nil _ _, fun z hz => by cases hz⟩
  · simp [Value.cells] at hcs
    obtain ⟨rfl, rfl, rfl⟩ := hcs
    have hlz : n ≤ zs.length := by rw [hz]; split <;> omega
    refine ⟨zs.take n, by rw [List.length_take]; omega, hl, hm, ?_, fun z hz => hwz z (List.mem_of_mem_take hz)⟩
    refine rd_of_cells fun i hi => ?_
    have hi' : i < n := by simp at hi; omega
    rw [hcell i (by omega), List.getElem?_map, List.getElem?_take, if_pos hi', List.getElem?_eq_getElem (by omega)]
    simp [List.getD, show i < zs.length by omega]

theorem open_bytes {t e : TypeId} (ht : P.underlying t = some (.slice e)) (he : P.underlying e = some (.int .u8)) (hc : P.cellsOf e = 1)
    {A : Option Addr} {n c : Nat} {d : DataW H} {p : List MemPlace} (h : DataW.Trod enc P W base spare held t (.slice A n c) d p) :
    ∃ l : List UInt8, n = l.length ∧ n ≤ c ∧ c ≤ maxLen ∧ Rd W A (bv l) := by
  obtain ⟨l, h1, h2, h3, h4, h5⟩ := open_int_list ht he hc h
  refine ⟨l.map fun z => UInt8.ofNat z.toNat, by simpa using h1, h2, h3, ?_⟩
  have : bv (l.map fun z => UInt8.ofNat z.toNat) = l.map (Value.int .u8) := by
    unfold bv
    rw [List.map_map]
    refine List.map_congr_left fun z hz => ?_
    have hw := h5 z hz
    simp only [Lit.wf, IntKind.min, IntKind.max, IntKind.signed, IntKind.bits, Bool.and_eq_true, decide_eq_true_eq] at hw
    simp at hw
    show Value.int .u8 _ = Value.int .u8 _
    congr 1
    rw [UInt8.toNat_ofNat']
    omega
  rw [this]
  exact h4

/-- A nil slice has nothing. -/
theorem open_none {k : IntKind} {t e : TypeId} (ht : P.underlying t = some (.slice e)) (he : P.underlying e = some (.int k)) (hc : P.cellsOf e = 1)
    {A : Option Addr} {n c : Nat} {d : DataW H} {p : List MemPlace} (h : DataW.Trod enc P W base spare held t (.slice A n c) d p) : A = none → n = 0 ∧ c = 0 := by
  rintro rfl
  obtain ⟨fuel, hf⟩ := h
  rcases open_ints ht he hc hf with ⟨hcs, _⟩ | ⟨x, l, cc, zs, hcs, _⟩
  · simp [Value.cells] at hcs
    exact hcs
  · simp [Value.cells] at hcs

theorem okWide_agg {t : TypeId} {n : Nat} {e : TypeId} {w : World} {r : Reach} {b : Nat} {v : Value} (ht : P.underlying t = some (.array n e)) (h : Value.okWide P w r b t v) : ∃ cs, v = .agg cs ∧ cs.size = P.cellsOf t := by
  simp only [Value.okWide, ht] at h
  obtain ⟨cs, h1, h2, _⟩ := h
  exact ⟨cs, h1, h2⟩
/-- An array of whole numbers. -/
theorem open_int_arr {k : IntKind} {t e : TypeId} {n : Nat} (ht : P.underlying t = some (.array n e)) (he : P.underlying e = some (.int k)) (hc : P.cellsOf e = 1) (hct : P.cellsOf t = n)
    {v : Value} (hv : ∃ cs, v = .agg cs ∧ cs.size = P.cellsOf t) {d : DataW H} {p : List MemPlace} (h : DataW.Trod enc P W base spare held t v d p) :
    ∃ zs : List Int, zs.length = n ∧ v = .agg (zs.map (Value.int k)).toArray ∧ ∀ z ∈ zs, (Lit.int k z).wf = true := by
  obtain ⟨cs, rfl, hsz⟩ := hv
  obtain ⟨fuel, hf⟩ := h
  obtain ⟨xs, m, _, _, hl, hxl, hx⟩ := DataW.trod_array ht hf
  have key : ∀ i, i < n → ∃ z, cs[i]? = some (.int k z) ∧ (Lit.int k z).wf = true := by
    intro i hi
    have hi' : i < cs.size := by omega
    have h1 := hx i hi
    rw [hc, Nat.mul_one] at h1
    have e1 : (((Value.agg cs).cells.toList.drop i).take 1) = [cs[i]] := by
      show ((cs.toList.drop i).take 1) = _
      rw [List.drop_eq_getElem_cons (by simpa using hi')]
      simp
    rw [e1, List.getElem?_eq_getElem (by omega)] at h1
    obtain ⟨z, hz, _, hw⟩ := DataW.trod_int he h1
    refine ⟨z, ?_, hw⟩
    rw [Array.getElem?_eq_getElem hi']
    simpa using hz
  let f : Nat → Int := fun i => match cs[i]? with | some (.int _ z) => z | _ => 0
  refine ⟨(List.range n).map f, by simp, ?_, ?_⟩
  · congr 1
    refine Array.ext (by simp; omega) fun i h1 h2 => ?_
    obtain ⟨z, hz, _⟩ := key i (by omega)
    have : f i = z := by simp only [f, hz]
    simp [this]
    rw [Array.getElem?_eq_getElem h1] at hz
    exact Option.some.inj hz
  · intro z hz
    simp only [List.mem_map, List.mem_range] at hz
    obtain ⟨i, hi, rfl⟩ := hz
    obtain ⟨z, hz, hw⟩ := key i hi
    have : f i = z := by simp only [f, hz]
    rw [this]; exact hw

theorem i64_bounds {a : Int} (h : (Lit.int .i64 a).wf = true) : -9223372036854775808 ≤ a ∧ a ≤ 9223372036854775807 := by
  simp only [Lit.wf, IntKind.min, IntKind.max, IntKind.signed, IntKind.bits, Bool.and_eq_true, decide_eq_true_eq] at h
  simp at h
  omega
end
end Go.Proofs.Ytjfjkmbokiinbaa

namespace Go.Proofs.Ytjfjkmbokiinbaa
open Go.ChangeShapes Go.WideShapes Go.ChangeAt Go.RowKit Go.Deep

section
variable {H : Type} {enc : TypeId × Value → H} {P : Program} {W : World} {base : Nat} {spare : Nat → Bool} {held : Bool}

/-- A slice of numbers of kind k that reads as l. -/
def NumS (W : World) (k : IntKind) (x : Value) (l : List Int) : Prop :=
  ∃ B c, x = .slice B l.length c ∧ l.length ≤ c ∧ c ≤ maxLen ∧ Rd W B (l.map (Value.int k)) ∧ (B = none → l.length = 0 ∧ c = 0) ∧ ∀ z ∈ l, (Lit.int k z).wf = true
theorem open_numS {k : IntKind} {e i : TypeId} (he : P.underlying e = some (.slice i)) (hi : P.underlying i = some (.int k)) (ci : P.cellsOf i = 1) {fuel : Nat} {v : Value} {x : DataW H × List MemPlace} (h : DataW.trod enc P W base spare held fuel e [v] = some x) :
    ∃ l, NumS W k v l := by
  have hv : ∃ A n c, v = .slice A n c := by
    rcases open_slice1 he ci h with ⟨hcs, _⟩ | ⟨a, len, cap, m, n, V, D, Pl, hcs, _⟩
    · simp at hcs; exact ⟨_, _, _, hcs⟩
    · simp at hcs; exact ⟨_, _, _, hcs⟩
  obtain ⟨A, n, c, rfl⟩ := hv
  have hT : DataW.Trod enc P W base spare held e (.slice A n c) x.1 x.2 := ⟨fuel, by simpa [Value.cells] using h⟩
  obtain ⟨l, rfl, h2, h3, h4, h5⟩ := open_int_list he hi ci hT
  have hn := open_none he hi ci hT
  exact ⟨l, A, c, rfl, h2, h3, h4, hn, h5⟩
theorem open_slices {k : IntKind} {t e i : TypeId} (ht : P.underlying t = some (.slice e)) (he : P.underlying e = some (.slice i)) (hi : P.underlying i = some (.int k)) (ce : P.cellsOf e = 1) (ci : P.cellsOf i = 1)
    {A : Option Addr} {n c : Nat} {d : DataW H} {p : List MemPlace} (h : DataW.Trod enc P W base spare held t (.slice A n c) d p) :
    ∃ (ls : List (List Int)) (vs : List Value), n = ls.length ∧ n ≤ c ∧ c ≤ maxLen ∧ vs.length = ls.length ∧ Rd W A vs ∧ (A = none → n = 0 ∧ c = 0) ∧ ∀ (j : Nat) (x : Value) (y : List Int), vs[j]? = some x → ls[j]? = some y → NumS W k x y := by
  obtain ⟨fuel, hf⟩ := h
  rcases open_slice1 ht ce hf with ⟨hcs, -⟩ | ⟨a, len, cap, m, nn, V, D, Pl, hcs, hb, hl, hm, hmm, -, hx⟩
  · simp [Value.cells] at hcs
    obtain ⟨rfl, rfl, rfl⟩ := hcs
    exact ⟨[], [], rfl, Nat.le_refl _, Nat.zero_le _, rfl, Rd.nil _ _, fun _ => ⟨rfl, rfl⟩, fun j x y hx => by simp at hx⟩
  · simp [Value.cells] at hcs
    obtain ⟨rfl, rfl, rfl⟩ := hcs
    have hlm : n ≤ m := by rw [hmm]; split <;> omega
    obtain ⟨L, hL⟩ := choose_lt (α := List Int) (p := fun j l => NumS W k (V j) l) (n := n) (fun j hj => open_numS he hi ci (hx j (by omega)).2)
    refine ⟨(List.range n).map L, (List.range n).map V, by simp, hl, hm, by simp, rd_of_cells fun j hj => ?_, (fun e => by cases e), fun j x y h1 h2 => ?_⟩
    · have hj' : j < n := by simpa using hj
      rw [(hx j (by omega)).1, List.getElem?_map, List.getElem?_range hj']; rfl
    · have hj' : j < n := by have := (List.getElem?_eq_some_iff.1 h1).1; simpa using this
      rw [List.getElem?_map, List.getElem?_range hj'] at h1 h2
      simp at h1 h2
      subst h1 h2
      exact hL j hj'
end
end Go.Proofs.Ytjfjkmbokiinbaa

namespace Go.Proofs.Ytjfjkmbokiinbaa
open Go.ChangeShapes Go.WideShapes Go.ChangeAt Go.RowKit Go.Deep

theorem numS_bs {W : World} {v : Value} {l : List Int} (h : NumS W .u8 v l) : ∃ m, BS W v m := by
  obtain ⟨B, c, rfl, hlc, -, hr, -, hwf⟩ := h
  have e : bv (l.map fun z => UInt8.ofNat z.toNat) = l.map (Value.int .u8) := by
    unfold bv
    rw [List.map_map]
    refine List.map_congr_left fun z hz => ?_
    have hw := hwf z hz
    simp only [Lit.wf, IntKind.min, IntKind.max, IntKind.signed, IntKind.bits, Bool.and_eq_true, decide_eq_true_eq] at hw
    simp at hw
    show Value.int .u8 _ = _
    congr 1
    rw [UInt8.toNat_ofNat']
    omega
  exact ⟨l.map (fun z => UInt8.ofNat z.toNat), B, c, by simp, by simpa using hlc, by rw [e]; exact hr⟩
theorem open_bss {H : Type} {enc : TypeId × Value → H} {P : Program} {W : World} {base : Nat} {spare : Nat → Bool} {held : Bool} {t e i : TypeId} (ht : P.underlying t = some (.slice e)) (he : P.underlying e = some (.slice i)) (hi : P.underlying i = some (.int .u8)) (ce : P.cellsOf e = 1) (ci : P.cellsOf i = 1)
    {A : Option Addr} {n c : Nat} {d : DataW H} {p : List MemPlace} (h : DataW.Trod enc P W base spare held t (.slice A n c) d p) :
    ∃ ls : List (List UInt8), n = ls.length ∧ n ≤ c ∧ c ≤ maxLen ∧ BSS W (.slice A n c) ls := by
  obtain ⟨ls, vs, hn, hc, hm, hvl, hr, -, hx⟩ := open_slices ht he hi ce ci h
  have key : ∀ j, j < vs.length → ∃ m, ∀ x, vs[j]? = some x → BS W x m := fun j hj => by
    obtain ⟨m, hm⟩ := numS_bs (hx j vs[j] ls[j] (List.getElem?_eq_getElem hj) (List.getElem?_eq_getElem (by omega)))
    exact ⟨m, fun x hx => by rw [List.getElem?_eq_getElem hj] at hx; cases hx; exact hm⟩
  obtain ⟨L, hL⟩ := choose_lt (α := List UInt8) (p := fun j m => ∀ x, vs[j]? = some x → BS W x m) (n := vs.length) key
  refine ⟨(List.range n).map L, by simp, hc, hm, A, c, vs, by simp, by simpa using hc, hr, by simp [hvl, hn], fun j x y h1 h2 => ?_⟩
  have hj : j < vs.length := (List.getElem?_eq_some_iff.1 h1).1
  rw [List.getElem?_map, List.getElem?_range (by omega)] at h2
  simp at h2
  subst h2
  exact hL j hj x h1
end Go.Proofs.Ytjfjkmbokiinbaa
