/-
  jetsamref04.Sum: its walk.
-/
import Derived.Test.YtibhhebfenkeaaaDoorPad04
import Derived.Test.YtibhhebfenkeaaaDoorMono
namespace Go.Proofs.YtibhhebfenkeaaaDoor
open Go.RowKit

theorem own_open4 {w : World} {base s n : Nat} {e : TypeId} {v : Value} {xs : List Value} (h : w.ownsRow base e s v n xs) (hn : 0 < n) :
    ∃ g cap, v = .slice (some ⟨g, 0, none⟩) n cap ∧ base ≤ g ∧ n ≤ cap ∧ (∀ j u, xs[j]? = some u → w.cell? ⟨g, j, none⟩ = some u) ∧ (∀ i, w.frozen? ⟨g, i, none⟩ = false) := by
  rcases h.2 with ⟨_, h0⟩ | ⟨g, cap, cur, rfl, hb, hg, hc, _, _, ht⟩
  · omega
  · refine ⟨g, cap, rfl, hb, hc, fun j u hu => ?_, fun i => free_blk hg i⟩
    rw [cell_of_row _ g j _ _ _ hg, ← ht] at *
    rw [← Array.getElem?_toList]
    rw [List.getElem?_take] at hu
    split at hu
    · exact hu
    · cases hu
def SinP : Spec := .rel (fun v w => ∃ g, v = .slice (some ⟨g, 0, none⟩) 64 64 ∧ w.heap[g]? = some (.cells sinesV 47 (0, 0))) (fun _ _ _ ⟨g, e, h⟩ hb => ⟨g, e, hrow_below h hb⟩)
def PtrP (i : Nat) : Spec := .rel (fun v w => ∃ g, v = .pointer (some ⟨g, i, none⟩) ∧ w.heap[g]? = some (.cells sinesV 47 (0, 0))) (fun _ _ _ ⟨g, e, h⟩ hb => ⟨g, e, hrow_below h hb⟩)
theorem Rd.cut4 {w : World} {b o : Nat} {l : List UInt8} (h : Rd w (some ⟨b, o, none⟩) (bv l)) (lo : Nat) (hlo : lo + 4 ≤ l.length) : Rd w (some ⟨b, o + lo, none⟩) (bv ((l.drop lo).take 4)) := by
  intro j u hu
  have hj : j < 4 := by
    have := (List.getElem?_eq_some_iff.1 hu).1
    rw [bv_length, List.length_take] at this; omega
  have h2 : (bv l)[lo + j]? = some u := by
    rw [← hu]
    unfold bv
    rw [List.getElem?_map, List.getElem?_map, List.getElem?_take, if_pos hj, List.getElem?_drop]
  obtain ⟨b', o', e, hc⟩ := h (lo + j) u h2
  injection e with e
  injection e with e1 e2
  subst e1 e2
  exact ⟨b, o + lo, rfl, by rw [Nat.add_assoc]; exact hc⟩
theorem wdF_cut4 (l : List UInt8) (at_ g : Nat) : wdF ((l.drop (at_ + 4 * g)).take 4) 0 0 = wdF l at_ g :=
  pw_congr _ _ _ _ (fun j hj => by
    unfold by1
    simp only [List.getD_eq_getElem?_getD, List.getElem?_take, List.getElem?_drop]
    rw [if_pos (by omega)]
    congr 3
    omega) 4 (Nat.le_refl _)
theorem fF_ref (m : Nat → Nat) (s : S4) (i fx q1 q2 q3 : Nat) (hf : mixF i s.b s.c s.d = fx) (h1 : (fx + s.a) % 4294967296 = q1) (h2 : (q1 + sn i) % 4294967296 = q2) (h3 : (q2 + m (mixG i % 16)) % 4294967296 = q3) : fF m s i = q3 := by
  unfold fF
  rw [hf]
  omega
theorem Rd.set_other {w : World} {b o : Nat} {l : List Value} (h : Rd w (some ⟨b, o, none⟩) l) {g : Nat} (hne : b ≠ g) (k : Nat) (v : Value) : Rd (w.setCell ⟨g, k, none⟩ v) (some ⟨b, o, none⟩) l := by
  intro j u hu
  obtain ⟨b', o', e, hc⟩ := h j u hu
  injection e with e
  injection e with e1 e2
  subst e1 e2
  exact ⟨b, o, rfl, (World.cell?_setCell_other _ _ _ _ (by simp [hne])).trans hc⟩

set_option maxRecDepth 100000 in
set_option maxHeartbeats 16000000 in
theorem RSum_any (l : List UInt8) (A : Option Addr) (c : Nat) (w : World) (hr : Rd w A (bv l)) (hn : A = none → c = 0) (hlen : l.length ≤ 90000) :
    Calls Tryd.prog 10 #[.slice A l.length c] w fun e w' => e = .returned (.agg (osR (mdS l) 16)) ∧ Below w.heap.size w w' := by
  have HP := Lib.hid (Padded_any l A c (w.alloc (.cells #[.int .u8 0, .int .u8 0, .int .u8 0, .int .u8 0, .int .u8 0, .int .u8 0, .int .u8 0, .int .u8 0, .int .u8 0, .int .u8 0, .int .u8 0, .int .u8 0, .int .u8 0, .int .u8 0, .int .u8 0, .int .u8 0] 24)) (hr.alloc _) hn hlen)
  have HO : Hid ((w.alloc (.cells #[.int .u8 0, .int .u8 0, .int .u8 0, .int .u8 0, .int .u8 0, .int .u8 0, .int .u8 0, .int .u8 0, .int .u8 0, .int .u8 0, .int .u8 0, .int .u8 0, .int .u8 0, .int .u8 0, .int .u8 0, .int .u8 0] 24)).heap[w.heap.size]? = some (.cells (osR (mdS l) 0) 24 (0, 0))) := heap_alloc_last w _
  have Hb0 : Hid (Below w.heap.size w (w.alloc (.cells #[.int .u8 0, .int .u8 0, .int .u8 0, .int .u8 0, .int .u8 0, .int .u8 0, .int .u8 0, .int .u8 0, .int .u8 0, .int .u8 0, .int .u8 0, .int .u8 0, .int .u8 0, .int .u8 0, .int .u8 0, .int .u8 0] 24))) := bal (Below.refl _ _) _
  have Hsz0 : Hid (w.heap.size < (w.alloc (.cells #[.int .u8 0, .int .u8 0, .int .u8 0, .int .u8 0, .int .u8 0, .int .u8 0, .int .u8 0, .int .u8 0, .int .u8 0, .int .u8 0, .int .u8 0, .int .u8 0, .int .u8 0, .int .u8 0, .int .u8 0, .int .u8 0] 24)).heap.size) := by show _ < _; rw [World.size_alloc]; omega
  clear hr hn
  go_enter Tryd.func10, Tryd.ntmps10
  go_wp2_with fail
  generalize w.alloc (.cells #[.int .u8 0, .int .u8 0, .int .u8 0, .int .u8 0, .int .u8 0, .int .u8 0, .int .u8 0, .int .u8 0, .int .u8 0, .int .u8 0, .int .u8 0, .int .u8 0, .int .u8 0, .int .u8 0, .int .u8 0, .int .u8 0] 24) = w1 at *
  refine HP.out.mono ?_
  rintro e w2 ⟨v3, rfl, hown, hb2⟩
  have hpl := padd_length l
  have hpm := padd_mod l
  have hm : mdS l = HH (padd l) ((padd l).length / 64) := rfl
  generalize hPe : padd l = P at *
  obtain ⟨K, hK⟩ : ∃ K, P.length / 64 = K := ⟨_, rfl⟩
  have hPL : P.length = 64 * K := by omega
  rw [hK] at hm
  have hpz : padZ l.length < 64 := by unfold padZ; omega
  have hK0 : 0 < K := by omega
  obtain ⟨b3, c3, rfl, hg3, hc3, hcel3, -⟩ := own_open4 hown.out (by omega)
  have hrd3 : Rd w2 (some ⟨b3, 0, none⟩) (bv P) := fun j u hu => ⟨b3, 0, rfl, by rw [Nat.zero_add]; exact hcel3 j u hu⟩
  have Hm := Lib.hid hm
  have HPL := Lib.hid hPL
  have Hrd2 := Lib.hid hrd3
  have Hb2 := Lib.hid (bnext Hb0.out hb2)
  have HO2 := Lib.hid (hrow_below HO.out hb2)
  have hc3s : P.length ≤ c3 := hc3
  have hKl : P.length ≤ 90200 := by omega
  have hg3' : w.heap.size < b3 := by have := Hsz0.out; omega
  have Hb3s : Hid (b3 < w2.heap.size) := cell_lt (hcel3 0 (.int .u8 (P[0]'(by omega)).toNat) (bv_get P 0 (by omega)))
  have Hg3 := Lib.hid hg3'
  clear hown hb2 HP HO Hb0 hm hrd3 hcel3 hg3 hc3 hpl hpm hK hpz hPe Hsz0 hg3'
  have Hh : Hid ((w2.alloc (.cells #[.int .u32 1732584193, .int .u32 4023233417, .int .u32 2562383102, .int .u32 271733878] 47)).heap[w2.heap.size]? = some (.cells (stC (HH P 0)).toArray 47 (0, 0))) := heap_alloc_last w2 _
  have Hb3 := Lib.hid (bal Hb2.out (.cells #[.int .u32 1732584193, .int .u32 4023233417, .int .u32 2562383102, .int .u32 271733878] 47))
  have HO3 := Lib.hid (hrow_alloc HO2.out (.cells #[.int .u32 1732584193, .int .u32 4023233417, .int .u32 2562383102, .int .u32 271733878] 47))
  have Hrd3 := Lib.hid (Hrd2.out.alloc (.cells #[.int .u32 1732584193, .int .u32 4023233417, .int .u32 2562383102, .int .u32 271733878] 47))
  have HOh : Hid (w.heap.size < w2.heap.size) := (Array.getElem?_eq_some_iff.1 HO2.out).1
  obtain ⟨PL, hPLe⟩ : ∃ PL, P.length = PL := ⟨_, rfl⟩
  rw [hPLe] at HPL hc3s hKl ⊢
  have HPe := Lib.hid hPLe
  clear hPLe
  go_upto_region 3 with fail
  generalize w2.alloc (.cells #[.int .u32 1732584193, .int .u32 4023233417, .int .u32 2562383102, .int .u32 271733878] 47) = w3 at *
  obtain ⟨h, hhe⟩ : ∃ h, w2.heap.size = h := ⟨_, rfl⟩
  rw [hhe] at Hh HOh Hb3s ⊢
  clear hhe Hb2 HO2 Hrd2
  go_wp2_with fail
  go_loopw [5, 6, 7, 8, 9, 10, 11, 12] (fun at_ x6 x7 x8 x9 x10 x11 x12 wr => ∃ k : Nat, k ≤ K ∧ at_ = .int .i64 ((64 * k : Nat) : Int) ∧ Hid (wr.heap[h]? = some (.cells (stC (HH P k)).toArray 47 (0, 0))) ∧ Hid (wr.heap[w.heap.size]? = some (.cells (osR (mdS l) 0) 24 (0, 0))) ∧ Hid (Rd wr (some ⟨b3, 0, none⟩) (bv P)) ∧ Hid (Below w.heap.size w wr)) (fun at_ _ _ _ _ _ _ _ _ => PL - (intOf at_).toNat)
  case atStart => exact ⟨0, by omega, rfl, Hh.out, HO3.out, Hrd3.out, Hb3.out⟩
  case round =>
    clear Hh HO3 Hrd3 Hb3
    obtain ⟨k, hk, rfl, Hh, HO, Hrd, Hb⟩ := hrel
    by_cases hkk : k < K
    · have hok := HH_ok P k
      have Hnx : Hid (HH P (k + 1) = addS (HH P k) (rnds (wdF P (64 * k)) (HH P k) 64)) := rfl
      have Hrok := Lib.hid (rnds_ok (wdF P (64 * k)) (HH P k) (HH_ok P k))
      have Hrn : Hid (∀ i, rnds (wdF P (64 * k)) (HH P k) (i + 1) = rnd (wdF P (64 * k)) (rnds (wdF P (64 * k)) (HH P k) i) i) := fun i => rfl
      have Hr0 : Hid (rnds (wdF P (64 * k)) (HH P k) 0 = HH P k) := rfl
      obtain ⟨at_, hat⟩ : ∃ at_, 64 * k = at_ := ⟨_, rfl⟩
      have hatP : at_ + 64 ≤ PL := by have := HPL.out; omega
      rw [hat] at Hnx Hrok Hrn Hr0 ⊢
      have Hat := Lib.hid hat
      clear hat
      generalize HH P k = s at *
      have hx0 : wr.cell? ⟨h, 0, none⟩ = some (.int .u32 (s.a : Nat)) := by rw [cell_of_row _ _ 0 _ _ _ Hh.out]; simp [stC]
      have hx1 : wr.cell? ⟨h, 1, none⟩ = some (.int .u32 (s.b : Nat)) := by rw [cell_of_row _ _ 1 _ _ _ Hh.out]; simp [stC]
      have hx2 : wr.cell? ⟨h, 2, none⟩ = some (.int .u32 (s.c : Nat)) := by rw [cell_of_row _ _ 2 _ _ _ Hh.out]; simp [stC]
      have hx3 : wr.cell? ⟨h, 3, none⟩ = some (.int .u32 (s.d : Nat)) := by rw [cell_of_row _ _ 3 _ _ _ Hh.out]; simp [stC]
      have hatI : (at_ : Int) < PL := by omega
      have hat9 : (PL : Int) ≤ 90200 := by omega
      have hs4 : (0 : Int) < 4 := by omega
      obtain ⟨wo, rfl⟩ : ∃ wo : World, wo = wr := ⟨_, rfl⟩
      go_wp2_with fail
      go_loopw [6, 7, 8, 9, 10, 11, 12] (fun xa xb xc xd xi x11 x12 wr => ∃ i : Nat, i ≤ 64 ∧ xi = .int .i64 i ∧ xa = .int .u32 ((rnds (wdF P at_) s i).a : Nat) ∧ xb = .int .u32 ((rnds (wdF P at_) s i).b : Nat) ∧ xc = .int .u32 ((rnds (wdF P at_) s i).c : Nat) ∧ xd = .int .u32 ((rnds (wdF P at_) s i).d : Nat) ∧ Hid (Below wo.heap.size wo wr)) (fun _ _ _ _ xi _ _ _ => 64 - (intOf xi).toNat)
      case atStart => exact ⟨0, by omega, rfl, rfl, rfl, rfl, rfl, Below.refl _ _⟩
      case round =>
        obtain ⟨i, hi, rfl, rfl, rfl, rfl, rfl, Hbi⟩ := hrel
        clear hx0 hx1 hx2 hx3
        by_cases hi64 : i < 64
        · have hiI : (i : Int) < 64 := by omega
          have hi0 : (0 : Int) ≤ (i : Int) := by omega
          have hok2 := Hrok.out i
          have Hn := Lib.hid (Hrn.out i)
          generalize rnds (wdF P at_) s i = st at *
          obtain ⟨a, b, c', d⟩ := st
          obtain ⟨ha, hb, hc, hd⟩ := hok2
          simp only at ha hb hc hd ⊢
          have hsnl := sn_lt i hi64
          have htnl := tn_le i hi64
          have hml := wdF_lt P at_ (mixG i % 16)
          have hmx := mixF_lt i b c' d hb hc hd
          have Hsn : Hid (sinesV[i]? = some (.int .u32 (sn i : Nat))) := sinesV_at i hi64
          have hlo : at_ + 4 * (mixG i % 16) + 4 ≤ PL := by omega
          have HWd := Lib.hid (fun W (hW : Below wr.heap.size wr W) => word_any ((P.drop (at_ + 4 * (mixG i % 16))).take 4) (some ⟨b3, 0 + (at_ + 4 * (mixG i % 16)), none⟩) (c3 - (at_ + 4 * (mixG i % 16))) W (Rd.cut4 ((Hrd.out.below Hbi.out).below hW) _ (by rw [HPe.out]; exact hlo)) (by rw [List.length_take, List.length_drop, HPe.out]; omega))
          rw [wdF_cut4] at HWd
          by_cases g0 : i < 16
          · skip
            obtain ⟨fx, hfx⟩ : ∃ fx, mixF i b c' d = fx := ⟨_, rfl⟩
            have hfl : fx < 4294967296 := hfx ▸ hmx
            have hz : b &&& c' ||| nt b &&& d = fx := by rw [← hfx, mixF_0 i b c' d g0]; rfl
            have e1 := u32_and b c' hb hc
            have e2 := u32_and (nt b) d (nt_lt b hb) hd
            have e3 := u32_or (b &&& c') (nt b &&& d) (Nat.and_lt_two_pow (n := 32) _ hc) (Nat.and_lt_two_pow (n := 32) _ hd)
            rw [hz] at e3
            have e8 := u32_not b hb
            have e9 := u32_sg
            have hge : mixG i % 16 = i := by rw [mixG_0 i g0]; omega
            have hci : (i : Int) < 16 := by omega
            rw [hge] at HWd hlo hml
            obtain ⟨lo, hloe⟩ : ∃ lo, at_ + 4 * i = lo := ⟨_, rfl⟩
            rw [hloe] at HWd hlo
            rw [Nat.zero_add] at HWd
            have hloI : (at_ : Int) + 4 * (i : Int) = (lo : Int) := by omega
            have hlo4 : (lo : Int) + 4 ≤ PL := by omega
            have hlo0 : (0 : Int) ≤ (lo : Int) := by omega
            have hlon : (lo : Int).toNat = lo := Int.toNat_natCast lo
            have hloc : ¬ c3 = lo := by omega
            have hlo4n : ((lo : Int) + 4).toNat = lo + 4 := by omega
            have hlo4c : (lo : Int) + 4 ≤ c3 := by omega
            have hlos : lo + 4 - lo = 4 := by omega
            obtain ⟨mw, hmw⟩ : ∃ mw, wdF P at_ i = mw := ⟨_, rfl⟩
            rw [hmw] at HWd hml
            obtain ⟨n, hne⟩ : ∃ n, sn i = n := ⟨_, rfl⟩
            rw [hne] at hsnl Hsn
            obtain ⟨q1, hq1⟩ : ∃ q, (fx + a) % 4294967296 = q := ⟨_, rfl⟩
            have f1 : IntKind.u32.wrap ((fx : Int) + (a : Int)) = (q1 : Int) := by rw [← hq1]; have := u32_wrap (fx + a); rwa [Int.natCast_add] at this
            obtain ⟨q2, hq2⟩ : ∃ q, (q1 + n) % 4294967296 = q := ⟨_, rfl⟩
            have f2 : IntKind.u32.wrap ((q1 : Int) + (n : Int)) = (q2 : Int) := by rw [← hq2]; have := u32_wrap (q1 + n); rwa [Int.natCast_add] at this
            obtain ⟨q3, hq3⟩ : ∃ q, (q2 + mw) % 4294967296 = q := ⟨_, rfl⟩
            have f3 : IntKind.u32.wrap ((q2 : Int) + (mw : Int)) = (q3 : Int) := by rw [← hq3]; have := u32_wrap (q2 + mw); rwa [Int.natCast_add] at this
            have hF : fF (wdF P at_) ⟨a, b, c', d⟩ i = q3 := fF_ref _ _ _ fx q1 q2 q3 hfx hq1 (by rw [hne]; exact hq2) (by rw [hge, hmw]; exact hq3)
            have hq3l : q3 < 4294967296 := by omega
            obtain ⟨tt, htt⟩ : ∃ tt, tn i = tt := ⟨_, rfl⟩
            have Htt := Lib.hid htt
            rw [htt] at htnl
            obtain ⟨s1, hs1⟩ : ∃ s1, q3 * 2 ^ tt % 4294967296 = s1 := ⟨_, rfl⟩
            have e4 : IntKind.u32.wrap ((q3 : Int) * 2 ^ tt) = (s1 : Int) := by rw [← hs1]; have := u32_wrap (q3 * 2 ^ tt); rwa [Int.natCast_mul, Int.natCast_pow, Int.cast_ofNat_Int] at this
            obtain ⟨s2, hs2⟩ : ∃ s2, q3 / 2 ^ (32 - tt) = s2 := ⟨_, rfl⟩
            have e5 : (q3 : Int) / 2 ^ (32 - tt) = (s2 : Int) := by rw [← hs2]; simp
            have hs1l : s1 < 4294967296 := by rw [← hs1]; exact Nat.mod_lt _ (by decide)
            have hs2l : s2 < 4294967296 := by rw [← hs2]; exact Nat.lt_of_le_of_lt (Nat.div_le_self _ _) hq3l
            have e6 := u32_or s1 s2 hs1l hs2l
            have hrl : rl q3 tt = s1 ||| s2 := by unfold rl; rw [hs1, hs2]
            obtain ⟨r, hre⟩ : ∃ r, s1 ||| s2 = r := ⟨_, rfl⟩
            rw [hre] at e6 hrl
            obtain ⟨vv, hv⟩ : ∃ v, (b + r) % 4294967296 = v := ⟨_, rfl⟩
            have e7 : IntKind.u32.wrap ((b : Int) + (r : Int)) = (vv : Int) := by rw [← hv]; have := u32_wrap (b + r); rwa [Int.natCast_add] at this
            have Hst : Hid (rnds (wdF P at_) s (i + 1) = ⟨d, vv, b, c'⟩) := by
              show _ = _
              rw [Hn.out, rnd, hF, htt, hrl, hv]
            have ht64 : min tt 64 = tt := by omega
            have ht64' : min (32 - tt) 64 = 32 - tt := by omega
            have htw : IntKind.i64.wrap (32 - (tt : Int)) = 32 - (tt : Int) := by rw [IntKind.wrap_i64]; omega
            have ht0 : (0 : Int) ≤ 32 - (tt : Int) := by omega
            have htI : (0 : Int) ≤ (tt : Int) := by omega
            have htn2 : ((32 : Int) - (tt : Int)).toNat = 32 - tt := by omega
            have hg16 : (i : Int) < 16 := by omega
            have hwa : IntKind.i64.wrap (4 * (i : Int)) = 4 * (i : Int) := by rw [IntKind.wrap_i64]; omega
            have hwb : IntKind.i64.wrap (lo : Int) = (lo : Int) := by rw [IntKind.wrap_i64]; omega
            have hwc : IntKind.i64.wrap ((lo : Int) + 4) = (lo : Int) + 4 := by rw [IntKind.wrap_i64]; omega
            clear hre hv hs1 hs2 hrl hF hq1 hq2 hq3 htt hne hmw hloe hfx Hn hge
            go_wp2_with fail
            refine wp_region_specs [
              Spec.val (.int .u32 (fx : Nat)),
              Spec.val (.int .u32 (a : Nat)),
              Spec.val (.int .u32 (q1 : Nat)),
              SinP,
              Spec.val (.int .i64 (i : Nat)),
              PtrP i,
              Spec.val (.int .u32 (n : Nat)),
              Spec.val (.int .u32 (q2 : Nat)),
              Spec.val (.slice (some ⟨b3, 0, none⟩) PL c3),
              Spec.val (.int .i64 (at_ : Nat)),
              Spec.val (.int .i64 (i : Nat)),
              Spec.val (.int .i64 (4 * (i : Int))),
              Spec.val (.int .i64 ((lo : Nat))),
              Spec.val (.int .i64 (at_ : Nat)),
              Spec.val (.int .i64 (i : Nat)),
              Spec.val (.int .i64 (4 * (i : Int))),
              Spec.val (.int .i64 ((lo : Nat))),
              Spec.val (.int .i64 ((lo : Int) + 4)),
              Spec.val (.slice (some ⟨b3, lo, none⟩) 4 (c3 - lo)),
              Spec.val (.int .u32 (mw : Nat)),
              Spec.val (.int .u32 (q3 : Nat)),
              Spec.val (.int .u32 (q3 : Nat))] wr (by kernel_rfl) (by repeat (first | exact Below.refl _ _ | assumption | refine below_drewN ?_ _ | refine Below.drew ?_ | refine Below.alloc ?_ (Nat.le_refl _) _ | refine bal ?_ _ | refine bnext ?_ (by assumption))) (n := 166) rfl (by decide +kernel) ⟨?_, ?_, ?_, ?_, ?_, ?_, ?_, ?_, ?_, ?_, ?_, ?_, ?_, ?_, ?_, ?_, ?_, ?_, ?_, ?_, ?_, ?_, trivial⟩ ?_
            · intro ac wd hJ hfr hdep
              have s11 : ac.tmps.getD 11 undef = .int .u32 (fx : Nat) := (hfr 11 (by decide)).trans rfl
              have s11' := slot' s11
              clear hfr hdep
              refine if_wanted rfl (fun Q => op_any (fun K hK => ?_))
              go_simp
              exact hK _ _ rfl hJ (Below.refl _ _)
            · intro ac wd hJ hfr hdep
              have s6 : ac.tmps.getD 6 undef = .int .u32 (a : Nat) := (hfr 6 (by decide)).trans rfl
              have s6' := slot' s6
              clear hfr hdep
              refine if_wanted rfl (fun Q => op_any (fun K hK => ?_))
              go_simp
              exact hK _ _ rfl hJ (Below.refl _ _)
            · intro ac wd hJ hfr hdep
              have s85 : ac.tmps.getD 85 undef = .int .u32 (fx : Nat) := hdep 0 _ 85 (by decide) rfl rfl
              have s86 : ac.tmps.getD 86 undef = .int .u32 (a : Nat) := hdep 1 _ 86 (by decide) rfl rfl
              have s85' := slot' s85
              have s86' := slot' s86
              clear hfr hdep
              refine if_wanted rfl (fun Q => op_any (fun K hK => ?_))
              go_simp
              exact hK _ _ rfl hJ (Below.refl _ _)
            · intro ac wd hJ hfr hdep
              skip
              clear hfr hdep
              refine if_wanted rfl (fun Q => op_any (fun K hK => ?_))
              go_simp
              refine (sines_any _).mono ?_
              rintro e wz ⟨rfl, rfl⟩
              exact hK _ _ ⟨_, rfl, heap_alloc_last wd _⟩ (bal hJ _) (bal (Below.refl _ _) _)
            · intro ac wd hJ hfr hdep
              have s10 : ac.tmps.getD 10 undef = .int .i64 (i : Nat) := (hfr 10 (by decide)).trans rfl
              have s10' := slot' s10
              clear hfr hdep
              refine if_wanted rfl (fun Q => op_any (fun K hK => ?_))
              go_simp
              exact hK _ _ rfl hJ (Below.refl _ _)
            · intro ac wd hJ hfr hdep
              obtain ⟨g88, s88, hG88⟩ := hdep 3 _ 88 (by decide) rfl rfl
              have s89 : ac.tmps.getD 89 undef = .int .i64 (i : Nat) := hdep 4 _ 89 (by decide) rfl rfl
              have s88' := slot' s88
              have s89' := slot' s89
              clear hfr hdep
              refine if_wanted rfl (fun Q => op_any (fun K hK => ?_))
              go_simp
              exact hK _ _ ⟨_, rfl, hG88⟩ hJ (Below.refl _ _)
            · intro ac wd hJ hfr hdep
              obtain ⟨g90, s90, hG90⟩ := hdep 5 _ 90 (by decide) rfl rfl
              have s90' := slot' s90
              clear hfr hdep
              refine if_wanted rfl (fun Q => op_any (fun K hK => ?_))
              have hq : wd.cell? ⟨g90, i, none⟩ = some (.int .u32 (n : Nat)) := by rw [cell_of_row _ _ _ _ _ _ hG90]; exact Hsn.out
              go_simp
              exact hK _ _ rfl hJ (Below.refl _ _)
            · intro ac wd hJ hfr hdep
              have s87 : ac.tmps.getD 87 undef = .int .u32 (q1 : Nat) := hdep 2 _ 87 (by decide) rfl rfl
              have s91 : ac.tmps.getD 91 undef = .int .u32 (n : Nat) := hdep 6 _ 91 (by decide) rfl rfl
              have s87' := slot' s87
              have s91' := slot' s91
              clear hfr hdep
              refine if_wanted rfl (fun Q => op_any (fun K hK => ?_))
              go_simp
              exact hK _ _ rfl hJ (Below.refl _ _)
            · intro ac wd hJ hfr hdep
              have s3 : ac.tmps.getD 3 undef = .slice (some ⟨b3, 0, none⟩) PL c3 := (hfr 3 (by decide)).trans rfl
              have s3' := slot' s3
              clear hfr hdep
              refine if_wanted rfl (fun Q => op_any (fun K hK => ?_))
              go_simp
              exact hK _ _ rfl hJ (Below.refl _ _)
            · intro ac wd hJ hfr hdep
              have s5 : ac.tmps.getD 5 undef = .int .i64 (at_ : Nat) := (hfr 5 (by decide)).trans rfl
              have s5' := slot' s5
              clear hfr hdep
              refine if_wanted rfl (fun Q => op_any (fun K hK => ?_))
              go_simp
              exact hK _ _ rfl hJ (Below.refl _ _)
            · intro ac wd hJ hfr hdep
              have s12 : ac.tmps.getD 12 undef = .int .i64 (i : Nat) := (hfr 12 (by decide)).trans rfl
              have s12' := slot' s12
              clear hfr hdep
              refine if_wanted rfl (fun Q => op_any (fun K hK => ?_))
              go_simp
              exact hK _ _ rfl hJ (Below.refl _ _)
            · intro ac wd hJ hfr hdep
              have s95 : ac.tmps.getD 95 undef = .int .i64 (i : Nat) := hdep 10 _ 95 (by decide) rfl rfl
              have s95' := slot' s95
              clear hfr hdep
              refine if_wanted rfl (fun Q => op_any (fun K hK => ?_))
              go_simp
              exact hK _ _ rfl hJ (Below.refl _ _)
            · intro ac wd hJ hfr hdep
              have s94 : ac.tmps.getD 94 undef = .int .i64 (at_ : Nat) := hdep 9 _ 94 (by decide) rfl rfl
              have s96 : ac.tmps.getD 96 undef = .int .i64 (4 * (i : Int)) := hdep 11 _ 96 (by decide) rfl rfl
              have s94' := slot' s94
              have s96' := slot' s96
              clear hfr hdep
              refine if_wanted rfl (fun Q => op_any (fun K hK => ?_))
              go_simp
              exact hK _ _ rfl hJ (Below.refl _ _)
            · intro ac wd hJ hfr hdep
              have s5 : ac.tmps.getD 5 undef = .int .i64 (at_ : Nat) := (hfr 5 (by decide)).trans rfl
              have s5' := slot' s5
              clear hfr hdep
              refine if_wanted rfl (fun Q => op_any (fun K hK => ?_))
              go_simp
              exact hK _ _ rfl hJ (Below.refl _ _)
            · intro ac wd hJ hfr hdep
              have s12 : ac.tmps.getD 12 undef = .int .i64 (i : Nat) := (hfr 12 (by decide)).trans rfl
              have s12' := slot' s12
              clear hfr hdep
              refine if_wanted rfl (fun Q => op_any (fun K hK => ?_))
              go_simp
              exact hK _ _ rfl hJ (Below.refl _ _)
            · intro ac wd hJ hfr hdep
              have s99 : ac.tmps.getD 99 undef = .int .i64 (i : Nat) := hdep 14 _ 99 (by decide) rfl rfl
              have s99' := slot' s99
              clear hfr hdep
              refine if_wanted rfl (fun Q => op_any (fun K hK => ?_))
              go_simp
              exact hK _ _ rfl hJ (Below.refl _ _)
            · intro ac wd hJ hfr hdep
              have s98 : ac.tmps.getD 98 undef = .int .i64 (at_ : Nat) := hdep 13 _ 98 (by decide) rfl rfl
              have s100 : ac.tmps.getD 100 undef = .int .i64 (4 * (i : Int)) := hdep 15 _ 100 (by decide) rfl rfl
              have s98' := slot' s98
              have s100' := slot' s100
              clear hfr hdep
              refine if_wanted rfl (fun Q => op_any (fun K hK => ?_))
              go_simp
              exact hK _ _ rfl hJ (Below.refl _ _)
            · intro ac wd hJ hfr hdep
              have s101 : ac.tmps.getD 101 undef = .int .i64 ((lo : Nat)) := hdep 16 _ 101 (by decide) rfl rfl
              have s101' := slot' s101
              clear hfr hdep
              refine if_wanted rfl (fun Q => op_any (fun K hK => ?_))
              go_simp
              exact hK _ _ rfl hJ (Below.refl _ _)
            · intro ac wd hJ hfr hdep
              have s93 : ac.tmps.getD 93 undef = .slice (some ⟨b3, 0, none⟩) PL c3 := hdep 8 _ 93 (by decide) rfl rfl
              have s97 : ac.tmps.getD 97 undef = .int .i64 ((lo : Nat)) := hdep 12 _ 97 (by decide) rfl rfl
              have s102 : ac.tmps.getD 102 undef = .int .i64 ((lo : Int) + 4) := hdep 17 _ 102 (by decide) rfl rfl
              have s93' := slot' s93
              have s97' := slot' s97
              have s102' := slot' s102
              clear hfr hdep
              refine if_wanted rfl (fun Q => op_any (fun K hK => ?_))
              go_simp
              exact hK _ _ rfl hJ (Below.refl _ _)
            · intro ac wd hJ hfr hdep
              have s103 : ac.tmps.getD 103 undef = .slice (some ⟨b3, lo, none⟩) 4 (c3 - lo) := hdep 18 _ 103 (by decide) rfl rfl
              have s103' := slot' s103
              clear hfr hdep
              refine if_wanted rfl (fun Q => op_any (fun K hK => ?_))
              go_simp
              refine (HWd.out _ hJ).mono ?_
              rintro e wz ⟨rfl, q, rfl⟩
              exact hK _ _ rfl (below_drewN hJ _) (below_drewN (Below.refl _ _) _)
            · intro ac wd hJ hfr hdep
              have s92 : ac.tmps.getD 92 undef = .int .u32 (q2 : Nat) := hdep 7 _ 92 (by decide) rfl rfl
              have s104 : ac.tmps.getD 104 undef = .int .u32 (mw : Nat) := hdep 19 _ 104 (by decide) rfl rfl
              have s92' := slot' s92
              have s104' := slot' s104
              clear hfr hdep
              refine if_wanted rfl (fun Q => op_any (fun K hK => ?_))
              go_simp
              exact hK _ _ rfl hJ (Below.refl _ _)
            · intro ac wd hJ hfr hdep
              have s105 : ac.tmps.getD 105 undef = .int .u32 (q3 : Nat) := hdep 20 _ 105 (by decide) rfl rfl
              have s105' := slot' s105
              clear hfr hdep
              refine if_wanted rfl (fun Q => op_any (fun K hK => ?_))
              go_simp
              exact hK _ _ rfl hJ (Below.refl _ _)
            intro f26 w6 hJ6 hR
            have e0 : f26 0 = .int .u32 (fx : Nat) := hR 0 (by decide)
            have e1 : f26 1 = .int .u32 (a : Nat) := hR 1 (by decide)
            have e2 : f26 2 = .int .u32 (q1 : Nat) := hR 2 (by decide)
            obtain ⟨g3', e3, hG3'⟩ := hR 3 (by decide)
            have e4 : f26 4 = .int .i64 (i : Nat) := hR 4 (by decide)
            obtain ⟨g5', e5, hG5'⟩ := hR 5 (by decide)
            have e6 : f26 6 = .int .u32 (n : Nat) := hR 6 (by decide)
            have e7 : f26 7 = .int .u32 (q2 : Nat) := hR 7 (by decide)
            have e8 : f26 8 = .slice (some ⟨b3, 0, none⟩) PL c3 := hR 8 (by decide)
            have e9 : f26 9 = .int .i64 (at_ : Nat) := hR 9 (by decide)
            have e10 : f26 10 = .int .i64 (i : Nat) := hR 10 (by decide)
            have e11 : f26 11 = .int .i64 (4 * (i : Int)) := hR 11 (by decide)
            have e12 : f26 12 = .int .i64 ((lo : Nat)) := hR 12 (by decide)
            have e13 : f26 13 = .int .i64 (at_ : Nat) := hR 13 (by decide)
            have e14 : f26 14 = .int .i64 (i : Nat) := hR 14 (by decide)
            have e15 : f26 15 = .int .i64 (4 * (i : Int)) := hR 15 (by decide)
            have e16 : f26 16 = .int .i64 ((lo : Nat)) := hR 16 (by decide)
            have e17 : f26 17 = .int .i64 ((lo : Int) + 4) := hR 17 (by decide)
            have e18 : f26 18 = .slice (some ⟨b3, lo, none⟩) 4 (c3 - lo) := hR 18 (by decide)
            have e19 : f26 19 = .int .u32 (mw : Nat) := hR 19 (by decide)
            have e20 : f26 20 = .int .u32 (q3 : Nat) := hR 20 (by decide)
            have e21 : f26 21 = .int .u32 (q3 : Nat) := hR 21 (by decide)
            clear hR
            simp only [finA, Act.put, List.setIfInBounds_toArray, List.set_cons_succ, List.set_cons_zero, Nat.reduceAdd, e0, e1, e2, e3, e4, e5, e6, e7, e8, e9, e10, e11, e12, e13, e14, e15, e16, e17, e18, e19, e20, e21]
            clear e0 e1 e2 e3 e4 e5 e6 e7 e8 e9 e10 e11 e12 e13 e14 e15 e16 e17 e18 e19 e20 e21
            have hJ6' := hJ6
            go_wp2_with fail
            refine wp_region_specs [
              Spec.val (.int .u32 (b : Nat)),
              Spec.val (.int .u32 (q3 : Nat)),
              Spec.val (.int .i64 (i : Nat)),
              Spec.val (.int .i64 (tt : Nat)),
              Spec.val (.int .u32 (s1 : Nat)),
              Spec.val (.int .u32 (q3 : Nat)),
              Spec.val (.int .i64 (i : Nat)),
              Spec.val (.int .i64 (tt : Nat)),
              Spec.val (.int .i64 (32 - (tt : Int))),
              Spec.val (.int .u32 (s2 : Nat)),
              Spec.val (.int .u32 (r : Nat)),
              Spec.val (.int .u32 (vv : Nat)),
              Spec.val (.int .u32 (vv : Nat))] w6 (by kernel_rfl) (by repeat (first | exact Below.refl _ _ | assumption | refine below_drewN ?_ _ | refine Below.drew ?_ | refine Below.alloc ?_ (Nat.le_refl _) _ | refine bal ?_ _ | refine bnext ?_ (by assumption))) (n := 166) rfl (by decide +kernel) ⟨?_, ?_, ?_, ?_, ?_, ?_, ?_, ?_, ?_, ?_, ?_, ?_, ?_, trivial⟩ ?_
            · intro ac wd hJ hfr hdep
              have s7 : ac.tmps.getD 7 undef = .int .u32 (b : Nat) := (hfr 7 (by decide)).trans rfl
              have s7' := slot' s7
              clear hfr hdep
              refine if_wanted rfl (fun Q => op_any (fun K hK => ?_))
              go_simp
              exact hK _ _ rfl hJ (Below.refl _ _)
            · intro ac wd hJ hfr hdep
              have s11 : ac.tmps.getD 11 undef = .int .u32 (q3 : Nat) := (hfr 11 (by decide)).trans rfl
              have s11' := slot' s11
              clear hfr hdep
              refine if_wanted rfl (fun Q => op_any (fun K hK => ?_))
              go_simp
              exact hK _ _ rfl hJ (Below.refl _ _)
            · intro ac wd hJ hfr hdep
              have s10 : ac.tmps.getD 10 undef = .int .i64 (i : Nat) := (hfr 10 (by decide)).trans rfl
              have s10' := slot' s10
              clear hfr hdep
              refine if_wanted rfl (fun Q => op_any (fun K hK => ?_))
              go_simp
              exact hK _ _ rfl hJ (Below.refl _ _)
            · intro ac wd hJ hfr hdep
              have s111 : ac.tmps.getD 111 undef = .int .i64 (i : Nat) := hdep 2 _ 111 (by decide) rfl rfl
              have s111' := slot' s111
              clear hfr hdep
              refine if_wanted rfl (fun Q => op_any (fun K hK => ?_))
              go_simp
              refine (turns_any i hi64 _).mono ?_
              rw [Htt.out]
              rintro e wz ⟨rfl, hbz⟩
              exact hK _ _ rfl (bnext hJ hbz) hbz
            · intro ac wd hJ hfr hdep
              have s110 : ac.tmps.getD 110 undef = .int .u32 (q3 : Nat) := hdep 1 _ 110 (by decide) rfl rfl
              have s112 : ac.tmps.getD 112 undef = .int .i64 (tt : Nat) := hdep 3 _ 112 (by decide) rfl rfl
              have s110' := slot' s110
              have s112' := slot' s112
              clear hfr hdep
              refine if_wanted rfl (fun Q => op_any (fun K hK => ?_))
              go_simp
              exact hK _ _ rfl hJ (Below.refl _ _)
            · intro ac wd hJ hfr hdep
              have s11 : ac.tmps.getD 11 undef = .int .u32 (q3 : Nat) := (hfr 11 (by decide)).trans rfl
              have s11' := slot' s11
              clear hfr hdep
              refine if_wanted rfl (fun Q => op_any (fun K hK => ?_))
              go_simp
              exact hK _ _ rfl hJ (Below.refl _ _)
            · intro ac wd hJ hfr hdep
              have s10 : ac.tmps.getD 10 undef = .int .i64 (i : Nat) := (hfr 10 (by decide)).trans rfl
              have s10' := slot' s10
              clear hfr hdep
              refine if_wanted rfl (fun Q => op_any (fun K hK => ?_))
              go_simp
              exact hK _ _ rfl hJ (Below.refl _ _)
            · intro ac wd hJ hfr hdep
              have s115 : ac.tmps.getD 115 undef = .int .i64 (i : Nat) := hdep 6 _ 115 (by decide) rfl rfl
              have s115' := slot' s115
              clear hfr hdep
              refine if_wanted rfl (fun Q => op_any (fun K hK => ?_))
              go_simp
              refine (turns_any i hi64 _).mono ?_
              rw [Htt.out]
              rintro e wz ⟨rfl, hbz⟩
              exact hK _ _ rfl (bnext hJ hbz) hbz
            · intro ac wd hJ hfr hdep
              have s116 : ac.tmps.getD 116 undef = .int .i64 (tt : Nat) := hdep 7 _ 116 (by decide) rfl rfl
              have s116' := slot' s116
              clear hfr hdep
              refine if_wanted rfl (fun Q => op_any (fun K hK => ?_))
              go_simp
              exact hK _ _ rfl hJ (Below.refl _ _)
            · intro ac wd hJ hfr hdep
              have s114 : ac.tmps.getD 114 undef = .int .u32 (q3 : Nat) := hdep 5 _ 114 (by decide) rfl rfl
              have s117 : ac.tmps.getD 117 undef = .int .i64 (32 - (tt : Int)) := hdep 8 _ 117 (by decide) rfl rfl
              have s114' := slot' s114
              have s117' := slot' s117
              clear hfr hdep
              refine if_wanted rfl (fun Q => op_any (fun K hK => ?_))
              go_simp
              exact hK _ _ rfl hJ (Below.refl _ _)
            · intro ac wd hJ hfr hdep
              have s113 : ac.tmps.getD 113 undef = .int .u32 (s1 : Nat) := hdep 4 _ 113 (by decide) rfl rfl
              have s118 : ac.tmps.getD 118 undef = .int .u32 (s2 : Nat) := hdep 9 _ 118 (by decide) rfl rfl
              have s113' := slot' s113
              have s118' := slot' s118
              clear hfr hdep
              refine if_wanted rfl (fun Q => op_any (fun K hK => ?_))
              go_simp
              exact hK _ _ rfl hJ (Below.refl _ _)
            · intro ac wd hJ hfr hdep
              have s109 : ac.tmps.getD 109 undef = .int .u32 (b : Nat) := hdep 0 _ 109 (by decide) rfl rfl
              have s119 : ac.tmps.getD 119 undef = .int .u32 (r : Nat) := hdep 10 _ 119 (by decide) rfl rfl
              have s109' := slot' s109
              have s119' := slot' s119
              clear hfr hdep
              refine if_wanted rfl (fun Q => op_any (fun K hK => ?_))
              go_simp
              exact hK _ _ rfl hJ (Below.refl _ _)
            · intro ac wd hJ hfr hdep
              have s120 : ac.tmps.getD 120 undef = .int .u32 (vv : Nat) := hdep 11 _ 120 (by decide) rfl rfl
              have s120' := slot' s120
              clear hfr hdep
              refine if_wanted rfl (fun Q => op_any (fun K hK => ?_))
              go_simp
              exact hK _ _ rfl hJ (Below.refl _ _)
            intro f30 w8 hJ8 hR
            have e0 : f30 0 = .int .u32 (b : Nat) := hR 0 (by decide)
            have e1 : f30 1 = .int .u32 (q3 : Nat) := hR 1 (by decide)
            have e2 : f30 2 = .int .i64 (i : Nat) := hR 2 (by decide)
            have e3 : f30 3 = .int .i64 (tt : Nat) := hR 3 (by decide)
            have e4 : f30 4 = .int .u32 (s1 : Nat) := hR 4 (by decide)
            have e5 : f30 5 = .int .u32 (q3 : Nat) := hR 5 (by decide)
            have e6 : f30 6 = .int .i64 (i : Nat) := hR 6 (by decide)
            have e7 : f30 7 = .int .i64 (tt : Nat) := hR 7 (by decide)
            have e8 : f30 8 = .int .i64 (32 - (tt : Int)) := hR 8 (by decide)
            have e9 : f30 9 = .int .u32 (s2 : Nat) := hR 9 (by decide)
            have e10 : f30 10 = .int .u32 (r : Nat) := hR 10 (by decide)
            have e11 : f30 11 = .int .u32 (vv : Nat) := hR 11 (by decide)
            have e12 : f30 12 = .int .u32 (vv : Nat) := hR 12 (by decide)
            clear hR
            simp only [finA, Act.put, List.setIfInBounds_toArray, List.set_cons_succ, List.set_cons_zero, Nat.reduceAdd, e0, e1, e2, e3, e4, e5, e6, e7, e8, e9, e10, e11, e12]
            clear e0 e1 e2 e3 e4 e5 e6 e7 e8 e9 e10 e11 e12
            go_wp2_with fail
            go_roundw
            case rel => exact ⟨i + 1, by omega, by go_num, by rw [Hst.out], by rw [Hst.out], by rw [Hst.out], by rw [Hst.out], bnext Hbi.out (bnext hJ6 hJ8)⟩
            case measure => simp [intOf] <;> omega
          by_cases g1 : i < 32
          · skip
            obtain ⟨fx, hfx⟩ : ∃ fx, mixF i b c' d = fx := ⟨_, rfl⟩
            have hfl : fx < 4294967296 := hfx ▸ hmx
            have hz : d &&& b ||| nt d &&& c' = fx := by rw [← hfx, mixF_1 i b c' d g0 g1]; rfl
            have e1 := u32_and d b hd hb
            have e2 := u32_and (nt d) c' (nt_lt d hd) hc
            have e3 := u32_or (d &&& b) (nt d &&& c') (Nat.and_lt_two_pow (n := 32) _ hb) (Nat.and_lt_two_pow (n := 32) _ hc)
            rw [hz] at e3
            have e8 := u32_not d hd
            have e9 := u32_sg
            obtain ⟨g, hge⟩ : ∃ g, mixG i % 16 = g := ⟨_, rfl⟩
            have hgI : (5 * (i : Int) + 1) % 16 = (g : Int) := by rw [← hge, mixG_1 i g0 g1]; omega
            have hci : ¬ (i : Int) < 16 := by omega
            have hci2 : (i : Int) < 32 := by omega
            rw [hge] at HWd hlo hml
            obtain ⟨lo, hloe⟩ : ∃ lo, at_ + 4 * g = lo := ⟨_, rfl⟩
            rw [hloe] at HWd hlo
            rw [Nat.zero_add] at HWd
            have hloI : (at_ : Int) + 4 * (g : Int) = (lo : Int) := by omega
            have hlo4 : (lo : Int) + 4 ≤ PL := by omega
            have hlo0 : (0 : Int) ≤ (lo : Int) := by omega
            have hlon : (lo : Int).toNat = lo := Int.toNat_natCast lo
            have hloc : ¬ c3 = lo := by omega
            have hlo4n : ((lo : Int) + 4).toNat = lo + 4 := by omega
            have hlo4c : (lo : Int) + 4 ≤ c3 := by omega
            have hlos : lo + 4 - lo = 4 := by omega
            obtain ⟨mw, hmw⟩ : ∃ mw, wdF P at_ g = mw := ⟨_, rfl⟩
            rw [hmw] at HWd hml
            obtain ⟨n, hne⟩ : ∃ n, sn i = n := ⟨_, rfl⟩
            rw [hne] at hsnl Hsn
            obtain ⟨q1, hq1⟩ : ∃ q, (fx + a) % 4294967296 = q := ⟨_, rfl⟩
            have f1 : IntKind.u32.wrap ((fx : Int) + (a : Int)) = (q1 : Int) := by rw [← hq1]; have := u32_wrap (fx + a); rwa [Int.natCast_add] at this
            obtain ⟨q2, hq2⟩ : ∃ q, (q1 + n) % 4294967296 = q := ⟨_, rfl⟩
            have f2 : IntKind.u32.wrap ((q1 : Int) + (n : Int)) = (q2 : Int) := by rw [← hq2]; have := u32_wrap (q1 + n); rwa [Int.natCast_add] at this
            obtain ⟨q3, hq3⟩ : ∃ q, (q2 + mw) % 4294967296 = q := ⟨_, rfl⟩
            have f3 : IntKind.u32.wrap ((q2 : Int) + (mw : Int)) = (q3 : Int) := by rw [← hq3]; have := u32_wrap (q2 + mw); rwa [Int.natCast_add] at this
            have hF : fF (wdF P at_) ⟨a, b, c', d⟩ i = q3 := fF_ref _ _ _ fx q1 q2 q3 hfx hq1 (by rw [hne]; exact hq2) (by rw [hge, hmw]; exact hq3)
            have hq3l : q3 < 4294967296 := by omega
            obtain ⟨tt, htt⟩ : ∃ tt, tn i = tt := ⟨_, rfl⟩
            have Htt := Lib.hid htt
            rw [htt] at htnl
            obtain ⟨s1, hs1⟩ : ∃ s1, q3 * 2 ^ tt % 4294967296 = s1 := ⟨_, rfl⟩
            have e4 : IntKind.u32.wrap ((q3 : Int) * 2 ^ tt) = (s1 : Int) := by rw [← hs1]; have := u32_wrap (q3 * 2 ^ tt); rwa [Int.natCast_mul, Int.natCast_pow, Int.cast_ofNat_Int] at this
            obtain ⟨s2, hs2⟩ : ∃ s2, q3 / 2 ^ (32 - tt) = s2 := ⟨_, rfl⟩
            have e5 : (q3 : Int) / 2 ^ (32 - tt) = (s2 : Int) := by rw [← hs2]; simp
            have hs1l : s1 < 4294967296 := by rw [← hs1]; exact Nat.mod_lt _ (by decide)
            have hs2l : s2 < 4294967296 := by rw [← hs2]; exact Nat.lt_of_le_of_lt (Nat.div_le_self _ _) hq3l
            have e6 := u32_or s1 s2 hs1l hs2l
            have hrl : rl q3 tt = s1 ||| s2 := by unfold rl; rw [hs1, hs2]
            obtain ⟨r, hre⟩ : ∃ r, s1 ||| s2 = r := ⟨_, rfl⟩
            rw [hre] at e6 hrl
            obtain ⟨vv, hv⟩ : ∃ v, (b + r) % 4294967296 = v := ⟨_, rfl⟩
            have e7 : IntKind.u32.wrap ((b : Int) + (r : Int)) = (vv : Int) := by rw [← hv]; have := u32_wrap (b + r); rwa [Int.natCast_add] at this
            have Hst : Hid (rnds (wdF P at_) s (i + 1) = ⟨d, vv, b, c'⟩) := by
              show _ = _
              rw [Hn.out, rnd, hF, htt, hrl, hv]
            have ht64 : min tt 64 = tt := by omega
            have ht64' : min (32 - tt) 64 = 32 - tt := by omega
            have htw : IntKind.i64.wrap (32 - (tt : Int)) = 32 - (tt : Int) := by rw [IntKind.wrap_i64]; omega
            have ht0 : (0 : Int) ≤ 32 - (tt : Int) := by omega
            have htI : (0 : Int) ≤ (tt : Int) := by omega
            have htn2 : ((32 : Int) - (tt : Int)).toNat = 32 - tt := by omega
            have hg16 : (g : Int) < 16 := by omega
            have hwa : IntKind.i64.wrap (4 * (g : Int)) = 4 * (g : Int) := by rw [IntKind.wrap_i64]; omega
            have hwb : IntKind.i64.wrap (lo : Int) = (lo : Int) := by rw [IntKind.wrap_i64]; omega
            have hwc : IntKind.i64.wrap ((lo : Int) + 4) = (lo : Int) + 4 := by rw [IntKind.wrap_i64]; omega
            clear hre hv hs1 hs2 hrl hF hq1 hq2 hq3 htt hne hmw hloe hfx Hn hge
            go_wp2_with fail
            refine wp_region_specs [
              Spec.val (.int .u32 (fx : Nat)),
              Spec.val (.int .u32 (a : Nat)),
              Spec.val (.int .u32 (q1 : Nat)),
              SinP,
              Spec.val (.int .i64 (i : Nat)),
              PtrP i,
              Spec.val (.int .u32 (n : Nat)),
              Spec.val (.int .u32 (q2 : Nat)),
              Spec.val (.slice (some ⟨b3, 0, none⟩) PL c3),
              Spec.val (.int .i64 (at_ : Nat)),
              Spec.val (.int .i64 (g : Nat)),
              Spec.val (.int .i64 (4 * (g : Int))),
              Spec.val (.int .i64 ((lo : Nat))),
              Spec.val (.int .i64 (at_ : Nat)),
              Spec.val (.int .i64 (g : Nat)),
              Spec.val (.int .i64 (4 * (g : Int))),
              Spec.val (.int .i64 ((lo : Nat))),
              Spec.val (.int .i64 ((lo : Int) + 4)),
              Spec.val (.slice (some ⟨b3, lo, none⟩) 4 (c3 - lo)),
              Spec.val (.int .u32 (mw : Nat)),
              Spec.val (.int .u32 (q3 : Nat)),
              Spec.val (.int .u32 (q3 : Nat))] wr (by kernel_rfl) (by repeat (first | exact Below.refl _ _ | assumption | refine below_drewN ?_ _ | refine Below.drew ?_ | refine Below.alloc ?_ (Nat.le_refl _) _ | refine bal ?_ _ | refine bnext ?_ (by assumption))) (n := 166) rfl (by decide +kernel) ⟨?_, ?_, ?_, ?_, ?_, ?_, ?_, ?_, ?_, ?_, ?_, ?_, ?_, ?_, ?_, ?_, ?_, ?_, ?_, ?_, ?_, ?_, trivial⟩ ?_
            · intro ac wd hJ hfr hdep
              have s11 : ac.tmps.getD 11 undef = .int .u32 (fx : Nat) := (hfr 11 (by decide)).trans rfl
              have s11' := slot' s11
              clear hfr hdep
              refine if_wanted rfl (fun Q => op_any (fun K hK => ?_))
              go_simp
              exact hK _ _ rfl hJ (Below.refl _ _)
            · intro ac wd hJ hfr hdep
              have s6 : ac.tmps.getD 6 undef = .int .u32 (a : Nat) := (hfr 6 (by decide)).trans rfl
              have s6' := slot' s6
              clear hfr hdep
              refine if_wanted rfl (fun Q => op_any (fun K hK => ?_))
              go_simp
              exact hK _ _ rfl hJ (Below.refl _ _)
            · intro ac wd hJ hfr hdep
              have s85 : ac.tmps.getD 85 undef = .int .u32 (fx : Nat) := hdep 0 _ 85 (by decide) rfl rfl
              have s86 : ac.tmps.getD 86 undef = .int .u32 (a : Nat) := hdep 1 _ 86 (by decide) rfl rfl
              have s85' := slot' s85
              have s86' := slot' s86
              clear hfr hdep
              refine if_wanted rfl (fun Q => op_any (fun K hK => ?_))
              go_simp
              exact hK _ _ rfl hJ (Below.refl _ _)
            · intro ac wd hJ hfr hdep
              skip
              clear hfr hdep
              refine if_wanted rfl (fun Q => op_any (fun K hK => ?_))
              go_simp
              refine (sines_any _).mono ?_
              rintro e wz ⟨rfl, rfl⟩
              exact hK _ _ ⟨_, rfl, heap_alloc_last wd _⟩ (bal hJ _) (bal (Below.refl _ _) _)
            · intro ac wd hJ hfr hdep
              have s10 : ac.tmps.getD 10 undef = .int .i64 (i : Nat) := (hfr 10 (by decide)).trans rfl
              have s10' := slot' s10
              clear hfr hdep
              refine if_wanted rfl (fun Q => op_any (fun K hK => ?_))
              go_simp
              exact hK _ _ rfl hJ (Below.refl _ _)
            · intro ac wd hJ hfr hdep
              obtain ⟨g88, s88, hG88⟩ := hdep 3 _ 88 (by decide) rfl rfl
              have s89 : ac.tmps.getD 89 undef = .int .i64 (i : Nat) := hdep 4 _ 89 (by decide) rfl rfl
              have s88' := slot' s88
              have s89' := slot' s89
              clear hfr hdep
              refine if_wanted rfl (fun Q => op_any (fun K hK => ?_))
              go_simp
              exact hK _ _ ⟨_, rfl, hG88⟩ hJ (Below.refl _ _)
            · intro ac wd hJ hfr hdep
              obtain ⟨g90, s90, hG90⟩ := hdep 5 _ 90 (by decide) rfl rfl
              have s90' := slot' s90
              clear hfr hdep
              refine if_wanted rfl (fun Q => op_any (fun K hK => ?_))
              have hq : wd.cell? ⟨g90, i, none⟩ = some (.int .u32 (n : Nat)) := by rw [cell_of_row _ _ _ _ _ _ hG90]; exact Hsn.out
              go_simp
              exact hK _ _ rfl hJ (Below.refl _ _)
            · intro ac wd hJ hfr hdep
              have s87 : ac.tmps.getD 87 undef = .int .u32 (q1 : Nat) := hdep 2 _ 87 (by decide) rfl rfl
              have s91 : ac.tmps.getD 91 undef = .int .u32 (n : Nat) := hdep 6 _ 91 (by decide) rfl rfl
              have s87' := slot' s87
              have s91' := slot' s91
              clear hfr hdep
              refine if_wanted rfl (fun Q => op_any (fun K hK => ?_))
              go_simp
              exact hK _ _ rfl hJ (Below.refl _ _)
            · intro ac wd hJ hfr hdep
              have s3 : ac.tmps.getD 3 undef = .slice (some ⟨b3, 0, none⟩) PL c3 := (hfr 3 (by decide)).trans rfl
              have s3' := slot' s3
              clear hfr hdep
              refine if_wanted rfl (fun Q => op_any (fun K hK => ?_))
              go_simp
              exact hK _ _ rfl hJ (Below.refl _ _)
            · intro ac wd hJ hfr hdep
              have s5 : ac.tmps.getD 5 undef = .int .i64 (at_ : Nat) := (hfr 5 (by decide)).trans rfl
              have s5' := slot' s5
              clear hfr hdep
              refine if_wanted rfl (fun Q => op_any (fun K hK => ?_))
              go_simp
              exact hK _ _ rfl hJ (Below.refl _ _)
            · intro ac wd hJ hfr hdep
              have s12 : ac.tmps.getD 12 undef = .int .i64 (g : Nat) := (hfr 12 (by decide)).trans rfl
              have s12' := slot' s12
              clear hfr hdep
              refine if_wanted rfl (fun Q => op_any (fun K hK => ?_))
              go_simp
              exact hK _ _ rfl hJ (Below.refl _ _)
            · intro ac wd hJ hfr hdep
              have s95 : ac.tmps.getD 95 undef = .int .i64 (g : Nat) := hdep 10 _ 95 (by decide) rfl rfl
              have s95' := slot' s95
              clear hfr hdep
              refine if_wanted rfl (fun Q => op_any (fun K hK => ?_))
              go_simp
              exact hK _ _ rfl hJ (Below.refl _ _)
            · intro ac wd hJ hfr hdep
              have s94 : ac.tmps.getD 94 undef = .int .i64 (at_ : Nat) := hdep 9 _ 94 (by decide) rfl rfl
              have s96 : ac.tmps.getD 96 undef = .int .i64 (4 * (g : Int)) := hdep 11 _ 96 (by decide) rfl rfl
              have s94' := slot' s94
              have s96' := slot' s96
              clear hfr hdep
              refine if_wanted rfl (fun Q => op_any (fun K hK => ?_))
              go_simp
              exact hK _ _ rfl hJ (Below.refl _ _)
            · intro ac wd hJ hfr hdep
              have s5 : ac.tmps.getD 5 undef = .int .i64 (at_ : Nat) := (hfr 5 (by decide)).trans rfl
              have s5' := slot' s5
              clear hfr hdep
              refine if_wanted rfl (fun Q => op_any (fun K hK => ?_))
              go_simp
              exact hK _ _ rfl hJ (Below.refl _ _)
            · intro ac wd hJ hfr hdep
              have s12 : ac.tmps.getD 12 undef = .int .i64 (g : Nat) := (hfr 12 (by decide)).trans rfl
              have s12' := slot' s12
              clear hfr hdep
              refine if_wanted rfl (fun Q => op_any (fun K hK => ?_))
              go_simp
              exact hK _ _ rfl hJ (Below.refl _ _)
            · intro ac wd hJ hfr hdep
              have s99 : ac.tmps.getD 99 undef = .int .i64 (g : Nat) := hdep 14 _ 99 (by decide) rfl rfl
              have s99' := slot' s99
              clear hfr hdep
              refine if_wanted rfl (fun Q => op_any (fun K hK => ?_))
              go_simp
              exact hK _ _ rfl hJ (Below.refl _ _)
            · intro ac wd hJ hfr hdep
              have s98 : ac.tmps.getD 98 undef = .int .i64 (at_ : Nat) := hdep 13 _ 98 (by decide) rfl rfl
              have s100 : ac.tmps.getD 100 undef = .int .i64 (4 * (g : Int)) := hdep 15 _ 100 (by decide) rfl rfl
              have s98' := slot' s98
              have s100' := slot' s100
              clear hfr hdep
              refine if_wanted rfl (fun Q => op_any (fun K hK => ?_))
              go_simp
              exact hK _ _ rfl hJ (Below.refl _ _)
            · intro ac wd hJ hfr hdep
              have s101 : ac.tmps.getD 101 undef = .int .i64 ((lo : Nat)) := hdep 16 _ 101 (by decide) rfl rfl
              have s101' := slot' s101
              clear hfr hdep
              refine if_wanted rfl (fun Q => op_any (fun K hK => ?_))
              go_simp
              exact hK _ _ rfl hJ (Below.refl _ _)
            · intro ac wd hJ hfr hdep
              have s93 : ac.tmps.getD 93 undef = .slice (some ⟨b3, 0, none⟩) PL c3 := hdep 8 _ 93 (by decide) rfl rfl
              have s97 : ac.tmps.getD 97 undef = .int .i64 ((lo : Nat)) := hdep 12 _ 97 (by decide) rfl rfl
              have s102 : ac.tmps.getD 102 undef = .int .i64 ((lo : Int) + 4) := hdep 17 _ 102 (by decide) rfl rfl
              have s93' := slot' s93
              have s97' := slot' s97
              have s102' := slot' s102
              clear hfr hdep
              refine if_wanted rfl (fun Q => op_any (fun K hK => ?_))
              go_simp
              exact hK _ _ rfl hJ (Below.refl _ _)
            · intro ac wd hJ hfr hdep
              have s103 : ac.tmps.getD 103 undef = .slice (some ⟨b3, lo, none⟩) 4 (c3 - lo) := hdep 18 _ 103 (by decide) rfl rfl
              have s103' := slot' s103
              clear hfr hdep
              refine if_wanted rfl (fun Q => op_any (fun K hK => ?_))
              go_simp
              refine (HWd.out _ hJ).mono ?_
              rintro e wz ⟨rfl, q, rfl⟩
              exact hK _ _ rfl (below_drewN hJ _) (below_drewN (Below.refl _ _) _)
            · intro ac wd hJ hfr hdep
              have s92 : ac.tmps.getD 92 undef = .int .u32 (q2 : Nat) := hdep 7 _ 92 (by decide) rfl rfl
              have s104 : ac.tmps.getD 104 undef = .int .u32 (mw : Nat) := hdep 19 _ 104 (by decide) rfl rfl
              have s92' := slot' s92
              have s104' := slot' s104
              clear hfr hdep
              refine if_wanted rfl (fun Q => op_any (fun K hK => ?_))
              go_simp
              exact hK _ _ rfl hJ (Below.refl _ _)
            · intro ac wd hJ hfr hdep
              have s105 : ac.tmps.getD 105 undef = .int .u32 (q3 : Nat) := hdep 20 _ 105 (by decide) rfl rfl
              have s105' := slot' s105
              clear hfr hdep
              refine if_wanted rfl (fun Q => op_any (fun K hK => ?_))
              go_simp
              exact hK _ _ rfl hJ (Below.refl _ _)
            intro f26 w6 hJ6 hR
            have e0 : f26 0 = .int .u32 (fx : Nat) := hR 0 (by decide)
            have e1 : f26 1 = .int .u32 (a : Nat) := hR 1 (by decide)
            have e2 : f26 2 = .int .u32 (q1 : Nat) := hR 2 (by decide)
            obtain ⟨g3', e3, hG3'⟩ := hR 3 (by decide)
            have e4 : f26 4 = .int .i64 (i : Nat) := hR 4 (by decide)
            obtain ⟨g5', e5, hG5'⟩ := hR 5 (by decide)
            have e6 : f26 6 = .int .u32 (n : Nat) := hR 6 (by decide)
            have e7 : f26 7 = .int .u32 (q2 : Nat) := hR 7 (by decide)
            have e8 : f26 8 = .slice (some ⟨b3, 0, none⟩) PL c3 := hR 8 (by decide)
            have e9 : f26 9 = .int .i64 (at_ : Nat) := hR 9 (by decide)
            have e10 : f26 10 = .int .i64 (g : Nat) := hR 10 (by decide)
            have e11 : f26 11 = .int .i64 (4 * (g : Int)) := hR 11 (by decide)
            have e12 : f26 12 = .int .i64 ((lo : Nat)) := hR 12 (by decide)
            have e13 : f26 13 = .int .i64 (at_ : Nat) := hR 13 (by decide)
            have e14 : f26 14 = .int .i64 (g : Nat) := hR 14 (by decide)
            have e15 : f26 15 = .int .i64 (4 * (g : Int)) := hR 15 (by decide)
            have e16 : f26 16 = .int .i64 ((lo : Nat)) := hR 16 (by decide)
            have e17 : f26 17 = .int .i64 ((lo : Int) + 4) := hR 17 (by decide)
            have e18 : f26 18 = .slice (some ⟨b3, lo, none⟩) 4 (c3 - lo) := hR 18 (by decide)
            have e19 : f26 19 = .int .u32 (mw : Nat) := hR 19 (by decide)
            have e20 : f26 20 = .int .u32 (q3 : Nat) := hR 20 (by decide)
            have e21 : f26 21 = .int .u32 (q3 : Nat) := hR 21 (by decide)
            clear hR
            simp only [finA, Act.put, List.setIfInBounds_toArray, List.set_cons_succ, List.set_cons_zero, Nat.reduceAdd, e0, e1, e2, e3, e4, e5, e6, e7, e8, e9, e10, e11, e12, e13, e14, e15, e16, e17, e18, e19, e20, e21]
            clear e0 e1 e2 e3 e4 e5 e6 e7 e8 e9 e10 e11 e12 e13 e14 e15 e16 e17 e18 e19 e20 e21
            have hJ6' := hJ6
            go_wp2_with fail
            refine wp_region_specs [
              Spec.val (.int .u32 (b : Nat)),
              Spec.val (.int .u32 (q3 : Nat)),
              Spec.val (.int .i64 (i : Nat)),
              Spec.val (.int .i64 (tt : Nat)),
              Spec.val (.int .u32 (s1 : Nat)),
              Spec.val (.int .u32 (q3 : Nat)),
              Spec.val (.int .i64 (i : Nat)),
              Spec.val (.int .i64 (tt : Nat)),
              Spec.val (.int .i64 (32 - (tt : Int))),
              Spec.val (.int .u32 (s2 : Nat)),
              Spec.val (.int .u32 (r : Nat)),
              Spec.val (.int .u32 (vv : Nat)),
              Spec.val (.int .u32 (vv : Nat))] w6 (by kernel_rfl) (by repeat (first | exact Below.refl _ _ | assumption | refine below_drewN ?_ _ | refine Below.drew ?_ | refine Below.alloc ?_ (Nat.le_refl _) _ | refine bal ?_ _ | refine bnext ?_ (by assumption))) (n := 166) rfl (by decide +kernel) ⟨?_, ?_, ?_, ?_, ?_, ?_, ?_, ?_, ?_, ?_, ?_, ?_, ?_, trivial⟩ ?_
            · intro ac wd hJ hfr hdep
              have s7 : ac.tmps.getD 7 undef = .int .u32 (b : Nat) := (hfr 7 (by decide)).trans rfl
              have s7' := slot' s7
              clear hfr hdep
              refine if_wanted rfl (fun Q => op_any (fun K hK => ?_))
              go_simp
              exact hK _ _ rfl hJ (Below.refl _ _)
            · intro ac wd hJ hfr hdep
              have s11 : ac.tmps.getD 11 undef = .int .u32 (q3 : Nat) := (hfr 11 (by decide)).trans rfl
              have s11' := slot' s11
              clear hfr hdep
              refine if_wanted rfl (fun Q => op_any (fun K hK => ?_))
              go_simp
              exact hK _ _ rfl hJ (Below.refl _ _)
            · intro ac wd hJ hfr hdep
              have s10 : ac.tmps.getD 10 undef = .int .i64 (i : Nat) := (hfr 10 (by decide)).trans rfl
              have s10' := slot' s10
              clear hfr hdep
              refine if_wanted rfl (fun Q => op_any (fun K hK => ?_))
              go_simp
              exact hK _ _ rfl hJ (Below.refl _ _)
            · intro ac wd hJ hfr hdep
              have s111 : ac.tmps.getD 111 undef = .int .i64 (i : Nat) := hdep 2 _ 111 (by decide) rfl rfl
              have s111' := slot' s111
              clear hfr hdep
              refine if_wanted rfl (fun Q => op_any (fun K hK => ?_))
              go_simp
              refine (turns_any i hi64 _).mono ?_
              rw [Htt.out]
              rintro e wz ⟨rfl, hbz⟩
              exact hK _ _ rfl (bnext hJ hbz) hbz
            · intro ac wd hJ hfr hdep
              have s110 : ac.tmps.getD 110 undef = .int .u32 (q3 : Nat) := hdep 1 _ 110 (by decide) rfl rfl
              have s112 : ac.tmps.getD 112 undef = .int .i64 (tt : Nat) := hdep 3 _ 112 (by decide) rfl rfl
              have s110' := slot' s110
              have s112' := slot' s112
              clear hfr hdep
              refine if_wanted rfl (fun Q => op_any (fun K hK => ?_))
              go_simp
              exact hK _ _ rfl hJ (Below.refl _ _)
            · intro ac wd hJ hfr hdep
              have s11 : ac.tmps.getD 11 undef = .int .u32 (q3 : Nat) := (hfr 11 (by decide)).trans rfl
              have s11' := slot' s11
              clear hfr hdep
              refine if_wanted rfl (fun Q => op_any (fun K hK => ?_))
              go_simp
              exact hK _ _ rfl hJ (Below.refl _ _)
            · intro ac wd hJ hfr hdep
              have s10 : ac.tmps.getD 10 undef = .int .i64 (i : Nat) := (hfr 10 (by decide)).trans rfl
              have s10' := slot' s10
              clear hfr hdep
              refine if_wanted rfl (fun Q => op_any (fun K hK => ?_))
              go_simp
              exact hK _ _ rfl hJ (Below.refl _ _)
            · intro ac wd hJ hfr hdep
              have s115 : ac.tmps.getD 115 undef = .int .i64 (i : Nat) := hdep 6 _ 115 (by decide) rfl rfl
              have s115' := slot' s115
              clear hfr hdep
              refine if_wanted rfl (fun Q => op_any (fun K hK => ?_))
              go_simp
              refine (turns_any i hi64 _).mono ?_
              rw [Htt.out]
              rintro e wz ⟨rfl, hbz⟩
              exact hK _ _ rfl (bnext hJ hbz) hbz
            · intro ac wd hJ hfr hdep
              have s116 : ac.tmps.getD 116 undef = .int .i64 (tt : Nat) := hdep 7 _ 116 (by decide) rfl rfl
              have s116' := slot' s116
              clear hfr hdep
              refine if_wanted rfl (fun Q => op_any (fun K hK => ?_))
              go_simp
              exact hK _ _ rfl hJ (Below.refl _ _)
            · intro ac wd hJ hfr hdep
              have s114 : ac.tmps.getD 114 undef = .int .u32 (q3 : Nat) := hdep 5 _ 114 (by decide) rfl rfl
              have s117 : ac.tmps.getD 117 undef = .int .i64 (32 - (tt : Int)) := hdep 8 _ 117 (by decide) rfl rfl
              have s114' := slot' s114
              have s117' := slot' s117
              clear hfr hdep
              refine if_wanted rfl (fun Q => op_any (fun K hK => ?_))
              go_simp
              exact hK _ _ rfl hJ (Below.refl _ _)
            · intro ac wd hJ hfr hdep
              have s113 : ac.tmps.getD 113 undef = .int .u32 (s1 : Nat) := hdep 4 _ 113 (by decide) rfl rfl
              have s118 : ac.tmps.getD 118 undef = .int .u32 (s2 : Nat) := hdep 9 _ 118 (by decide) rfl rfl
              have s113' := slot' s113
              have s118' := slot' s118
              clear hfr hdep
              refine if_wanted rfl (fun Q => op_any (fun K hK => ?_))
              go_simp
              exact hK _ _ rfl hJ (Below.refl _ _)
            · intro ac wd hJ hfr hdep
              have s109 : ac.tmps.getD 109 undef = .int .u32 (b : Nat) := hdep 0 _ 109 (by decide) rfl rfl
              have s119 : ac.tmps.getD 119 undef = .int .u32 (r : Nat) := hdep 10 _ 119 (by decide) rfl rfl
              have s109' := slot' s109
              have s119' := slot' s119
              clear hfr hdep
              refine if_wanted rfl (fun Q => op_any (fun K hK => ?_))
              go_simp
              exact hK _ _ rfl hJ (Below.refl _ _)
            · intro ac wd hJ hfr hdep
              have s120 : ac.tmps.getD 120 undef = .int .u32 (vv : Nat) := hdep 11 _ 120 (by decide) rfl rfl
              have s120' := slot' s120
              clear hfr hdep
              refine if_wanted rfl (fun Q => op_any (fun K hK => ?_))
              go_simp
              exact hK _ _ rfl hJ (Below.refl _ _)
            intro f30 w8 hJ8 hR
            have e0 : f30 0 = .int .u32 (b : Nat) := hR 0 (by decide)
            have e1 : f30 1 = .int .u32 (q3 : Nat) := hR 1 (by decide)
            have e2 : f30 2 = .int .i64 (i : Nat) := hR 2 (by decide)
            have e3 : f30 3 = .int .i64 (tt : Nat) := hR 3 (by decide)
            have e4 : f30 4 = .int .u32 (s1 : Nat) := hR 4 (by decide)
            have e5 : f30 5 = .int .u32 (q3 : Nat) := hR 5 (by decide)
            have e6 : f30 6 = .int .i64 (i : Nat) := hR 6 (by decide)
            have e7 : f30 7 = .int .i64 (tt : Nat) := hR 7 (by decide)
            have e8 : f30 8 = .int .i64 (32 - (tt : Int)) := hR 8 (by decide)
            have e9 : f30 9 = .int .u32 (s2 : Nat) := hR 9 (by decide)
            have e10 : f30 10 = .int .u32 (r : Nat) := hR 10 (by decide)
            have e11 : f30 11 = .int .u32 (vv : Nat) := hR 11 (by decide)
            have e12 : f30 12 = .int .u32 (vv : Nat) := hR 12 (by decide)
            clear hR
            simp only [finA, Act.put, List.setIfInBounds_toArray, List.set_cons_succ, List.set_cons_zero, Nat.reduceAdd, e0, e1, e2, e3, e4, e5, e6, e7, e8, e9, e10, e11, e12]
            clear e0 e1 e2 e3 e4 e5 e6 e7 e8 e9 e10 e11 e12
            go_wp2_with fail
            go_roundw
            case rel => exact ⟨i + 1, by omega, by go_num, by rw [Hst.out], by rw [Hst.out], by rw [Hst.out], by rw [Hst.out], bnext Hbi.out (bnext hJ6 hJ8)⟩
            case measure => simp [intOf] <;> omega
          by_cases g2 : i < 48
          · skip
            obtain ⟨fx, hfx⟩ : ∃ fx, mixF i b c' d = fx := ⟨_, rfl⟩
            have hfl : fx < 4294967296 := hfx ▸ hmx
            have hz : (b ^^^ c') ^^^ d = fx := by rw [← hfx, mixF_2 i b c' d g1 g2]
            have e1 := u32_xor b c' hb hc
            have e2 := u32_xor (b ^^^ c') d (Nat.xor_lt_two_pow (n := 32) hb hc) hd
            rw [hz] at e2
            obtain ⟨g, hge⟩ : ∃ g, mixG i % 16 = g := ⟨_, rfl⟩
            have hgI : (3 * (i : Int) + 5) % 16 = (g : Int) := by rw [← hge, mixG_2 i g1 g2]; omega
            have hci : ¬ (i : Int) < 16 := by omega
            have hci2 : ¬ (i : Int) < 32 := by omega
            have hci3 : (i : Int) < 48 := by omega
            rw [hge] at HWd hlo hml
            obtain ⟨lo, hloe⟩ : ∃ lo, at_ + 4 * g = lo := ⟨_, rfl⟩
            rw [hloe] at HWd hlo
            rw [Nat.zero_add] at HWd
            have hloI : (at_ : Int) + 4 * (g : Int) = (lo : Int) := by omega
            have hlo4 : (lo : Int) + 4 ≤ PL := by omega
            have hlo0 : (0 : Int) ≤ (lo : Int) := by omega
            have hlon : (lo : Int).toNat = lo := Int.toNat_natCast lo
            have hloc : ¬ c3 = lo := by omega
            have hlo4n : ((lo : Int) + 4).toNat = lo + 4 := by omega
            have hlo4c : (lo : Int) + 4 ≤ c3 := by omega
            have hlos : lo + 4 - lo = 4 := by omega
            obtain ⟨mw, hmw⟩ : ∃ mw, wdF P at_ g = mw := ⟨_, rfl⟩
            rw [hmw] at HWd hml
            obtain ⟨n, hne⟩ : ∃ n, sn i = n := ⟨_, rfl⟩
            rw [hne] at hsnl Hsn
            obtain ⟨q1, hq1⟩ : ∃ q, (fx + a) % 4294967296 = q := ⟨_, rfl⟩
            have f1 : IntKind.u32.wrap ((fx : Int) + (a : Int)) = (q1 : Int) := by rw [← hq1]; have := u32_wrap (fx + a); rwa [Int.natCast_add] at this
            obtain ⟨q2, hq2⟩ : ∃ q, (q1 + n) % 4294967296 = q := ⟨_, rfl⟩
            have f2 : IntKind.u32.wrap ((q1 : Int) + (n : Int)) = (q2 : Int) := by rw [← hq2]; have := u32_wrap (q1 + n); rwa [Int.natCast_add] at this
            obtain ⟨q3, hq3⟩ : ∃ q, (q2 + mw) % 4294967296 = q := ⟨_, rfl⟩
            have f3 : IntKind.u32.wrap ((q2 : Int) + (mw : Int)) = (q3 : Int) := by rw [← hq3]; have := u32_wrap (q2 + mw); rwa [Int.natCast_add] at this
            have hF : fF (wdF P at_) ⟨a, b, c', d⟩ i = q3 := fF_ref _ _ _ fx q1 q2 q3 hfx hq1 (by rw [hne]; exact hq2) (by rw [hge, hmw]; exact hq3)
            have hq3l : q3 < 4294967296 := by omega
            obtain ⟨tt, htt⟩ : ∃ tt, tn i = tt := ⟨_, rfl⟩
            have Htt := Lib.hid htt
            rw [htt] at htnl
            obtain ⟨s1, hs1⟩ : ∃ s1, q3 * 2 ^ tt % 4294967296 = s1 := ⟨_, rfl⟩
            have e4 : IntKind.u32.wrap ((q3 : Int) * 2 ^ tt) = (s1 : Int) := by rw [← hs1]; have := u32_wrap (q3 * 2 ^ tt); rwa [Int.natCast_mul, Int.natCast_pow, Int.cast_ofNat_Int] at this
            obtain ⟨s2, hs2⟩ : ∃ s2, q3 / 2 ^ (32 - tt) = s2 := ⟨_, rfl⟩
            have e5 : (q3 : Int) / 2 ^ (32 - tt) = (s2 : Int) := by rw [← hs2]; simp
            have hs1l : s1 < 4294967296 := by rw [← hs1]; exact Nat.mod_lt _ (by decide)
            have hs2l : s2 < 4294967296 := by rw [← hs2]; exact Nat.lt_of_le_of_lt (Nat.div_le_self _ _) hq3l
            have e6 := u32_or s1 s2 hs1l hs2l
            have hrl : rl q3 tt = s1 ||| s2 := by unfold rl; rw [hs1, hs2]
            obtain ⟨r, hre⟩ : ∃ r, s1 ||| s2 = r := ⟨_, rfl⟩
            rw [hre] at e6 hrl
            obtain ⟨vv, hv⟩ : ∃ v, (b + r) % 4294967296 = v := ⟨_, rfl⟩
            have e7 : IntKind.u32.wrap ((b : Int) + (r : Int)) = (vv : Int) := by rw [← hv]; have := u32_wrap (b + r); rwa [Int.natCast_add] at this
            have Hst : Hid (rnds (wdF P at_) s (i + 1) = ⟨d, vv, b, c'⟩) := by
              show _ = _
              rw [Hn.out, rnd, hF, htt, hrl, hv]
            have ht64 : min tt 64 = tt := by omega
            have ht64' : min (32 - tt) 64 = 32 - tt := by omega
            have htw : IntKind.i64.wrap (32 - (tt : Int)) = 32 - (tt : Int) := by rw [IntKind.wrap_i64]; omega
            have ht0 : (0 : Int) ≤ 32 - (tt : Int) := by omega
            have htI : (0 : Int) ≤ (tt : Int) := by omega
            have htn2 : ((32 : Int) - (tt : Int)).toNat = 32 - tt := by omega
            have hg16 : (g : Int) < 16 := by omega
            have hwa : IntKind.i64.wrap (4 * (g : Int)) = 4 * (g : Int) := by rw [IntKind.wrap_i64]; omega
            have hwb : IntKind.i64.wrap (lo : Int) = (lo : Int) := by rw [IntKind.wrap_i64]; omega
            have hwc : IntKind.i64.wrap ((lo : Int) + 4) = (lo : Int) + 4 := by rw [IntKind.wrap_i64]; omega
            clear hre hv hs1 hs2 hrl hF hq1 hq2 hq3 htt hne hmw hloe hfx Hn hge
            go_wp2_with fail
            refine wp_region_specs [
              Spec.val (.int .u32 (fx : Nat)),
              Spec.val (.int .u32 (a : Nat)),
              Spec.val (.int .u32 (q1 : Nat)),
              SinP,
              Spec.val (.int .i64 (i : Nat)),
              PtrP i,
              Spec.val (.int .u32 (n : Nat)),
              Spec.val (.int .u32 (q2 : Nat)),
              Spec.val (.slice (some ⟨b3, 0, none⟩) PL c3),
              Spec.val (.int .i64 (at_ : Nat)),
              Spec.val (.int .i64 (g : Nat)),
              Spec.val (.int .i64 (4 * (g : Int))),
              Spec.val (.int .i64 ((lo : Nat))),
              Spec.val (.int .i64 (at_ : Nat)),
              Spec.val (.int .i64 (g : Nat)),
              Spec.val (.int .i64 (4 * (g : Int))),
              Spec.val (.int .i64 ((lo : Nat))),
              Spec.val (.int .i64 ((lo : Int) + 4)),
              Spec.val (.slice (some ⟨b3, lo, none⟩) 4 (c3 - lo)),
              Spec.val (.int .u32 (mw : Nat)),
              Spec.val (.int .u32 (q3 : Nat)),
              Spec.val (.int .u32 (q3 : Nat))] wr (by kernel_rfl) (by repeat (first | exact Below.refl _ _ | assumption | refine below_drewN ?_ _ | refine Below.drew ?_ | refine Below.alloc ?_ (Nat.le_refl _) _ | refine bal ?_ _ | refine bnext ?_ (by assumption))) (n := 166) rfl (by decide +kernel) ⟨?_, ?_, ?_, ?_, ?_, ?_, ?_, ?_, ?_, ?_, ?_, ?_, ?_, ?_, ?_, ?_, ?_, ?_, ?_, ?_, ?_, ?_, trivial⟩ ?_
            · intro ac wd hJ hfr hdep
              have s11 : ac.tmps.getD 11 undef = .int .u32 (fx : Nat) := (hfr 11 (by decide)).trans rfl
              have s11' := slot' s11
              clear hfr hdep
              refine if_wanted rfl (fun Q => op_any (fun K hK => ?_))
              go_simp
              exact hK _ _ rfl hJ (Below.refl _ _)
            · intro ac wd hJ hfr hdep
              have s6 : ac.tmps.getD 6 undef = .int .u32 (a : Nat) := (hfr 6 (by decide)).trans rfl
              have s6' := slot' s6
              clear hfr hdep
              refine if_wanted rfl (fun Q => op_any (fun K hK => ?_))
              go_simp
              exact hK _ _ rfl hJ (Below.refl _ _)
            · intro ac wd hJ hfr hdep
              have s85 : ac.tmps.getD 85 undef = .int .u32 (fx : Nat) := hdep 0 _ 85 (by decide) rfl rfl
              have s86 : ac.tmps.getD 86 undef = .int .u32 (a : Nat) := hdep 1 _ 86 (by decide) rfl rfl
              have s85' := slot' s85
              have s86' := slot' s86
              clear hfr hdep
              refine if_wanted rfl (fun Q => op_any (fun K hK => ?_))
              go_simp
              exact hK _ _ rfl hJ (Below.refl _ _)
            · intro ac wd hJ hfr hdep
              skip
              clear hfr hdep
              refine if_wanted rfl (fun Q => op_any (fun K hK => ?_))
              go_simp
              refine (sines_any _).mono ?_
              rintro e wz ⟨rfl, rfl⟩
              exact hK _ _ ⟨_, rfl, heap_alloc_last wd _⟩ (bal hJ _) (bal (Below.refl _ _) _)
            · intro ac wd hJ hfr hdep
              have s10 : ac.tmps.getD 10 undef = .int .i64 (i : Nat) := (hfr 10 (by decide)).trans rfl
              have s10' := slot' s10
              clear hfr hdep
              refine if_wanted rfl (fun Q => op_any (fun K hK => ?_))
              go_simp
              exact hK _ _ rfl hJ (Below.refl _ _)
            · intro ac wd hJ hfr hdep
              obtain ⟨g88, s88, hG88⟩ := hdep 3 _ 88 (by decide) rfl rfl
              have s89 : ac.tmps.getD 89 undef = .int .i64 (i : Nat) := hdep 4 _ 89 (by decide) rfl rfl
              have s88' := slot' s88
              have s89' := slot' s89
              clear hfr hdep
              refine if_wanted rfl (fun Q => op_any (fun K hK => ?_))
              go_simp
              exact hK _ _ ⟨_, rfl, hG88⟩ hJ (Below.refl _ _)
            · intro ac wd hJ hfr hdep
              obtain ⟨g90, s90, hG90⟩ := hdep 5 _ 90 (by decide) rfl rfl
              have s90' := slot' s90
              clear hfr hdep
              refine if_wanted rfl (fun Q => op_any (fun K hK => ?_))
              have hq : wd.cell? ⟨g90, i, none⟩ = some (.int .u32 (n : Nat)) := by rw [cell_of_row _ _ _ _ _ _ hG90]; exact Hsn.out
              go_simp
              exact hK _ _ rfl hJ (Below.refl _ _)
            · intro ac wd hJ hfr hdep
              have s87 : ac.tmps.getD 87 undef = .int .u32 (q1 : Nat) := hdep 2 _ 87 (by decide) rfl rfl
              have s91 : ac.tmps.getD 91 undef = .int .u32 (n : Nat) := hdep 6 _ 91 (by decide) rfl rfl
              have s87' := slot' s87
              have s91' := slot' s91
              clear hfr hdep
              refine if_wanted rfl (fun Q => op_any (fun K hK => ?_))
              go_simp
              exact hK _ _ rfl hJ (Below.refl _ _)
            · intro ac wd hJ hfr hdep
              have s3 : ac.tmps.getD 3 undef = .slice (some ⟨b3, 0, none⟩) PL c3 := (hfr 3 (by decide)).trans rfl
              have s3' := slot' s3
              clear hfr hdep
              refine if_wanted rfl (fun Q => op_any (fun K hK => ?_))
              go_simp
              exact hK _ _ rfl hJ (Below.refl _ _)
            · intro ac wd hJ hfr hdep
              have s5 : ac.tmps.getD 5 undef = .int .i64 (at_ : Nat) := (hfr 5 (by decide)).trans rfl
              have s5' := slot' s5
              clear hfr hdep
              refine if_wanted rfl (fun Q => op_any (fun K hK => ?_))
              go_simp
              exact hK _ _ rfl hJ (Below.refl _ _)
            · intro ac wd hJ hfr hdep
              have s12 : ac.tmps.getD 12 undef = .int .i64 (g : Nat) := (hfr 12 (by decide)).trans rfl
              have s12' := slot' s12
              clear hfr hdep
              refine if_wanted rfl (fun Q => op_any (fun K hK => ?_))
              go_simp
              exact hK _ _ rfl hJ (Below.refl _ _)
            · intro ac wd hJ hfr hdep
              have s95 : ac.tmps.getD 95 undef = .int .i64 (g : Nat) := hdep 10 _ 95 (by decide) rfl rfl
              have s95' := slot' s95
              clear hfr hdep
              refine if_wanted rfl (fun Q => op_any (fun K hK => ?_))
              go_simp
              exact hK _ _ rfl hJ (Below.refl _ _)
            · intro ac wd hJ hfr hdep
              have s94 : ac.tmps.getD 94 undef = .int .i64 (at_ : Nat) := hdep 9 _ 94 (by decide) rfl rfl
              have s96 : ac.tmps.getD 96 undef = .int .i64 (4 * (g : Int)) := hdep 11 _ 96 (by decide) rfl rfl
              have s94' := slot' s94
              have s96' := slot' s96
              clear hfr hdep
              refine if_wanted rfl (fun Q => op_any (fun K hK => ?_))
              go_simp
              exact hK _ _ rfl hJ (Below.refl _ _)
            · intro ac wd hJ hfr hdep
              have s5 : ac.tmps.getD 5 undef = .int .i64 (at_ : Nat) := (hfr 5 (by decide)).trans rfl
              have s5' := slot' s5
              clear hfr hdep
              refine if_wanted rfl (fun Q => op_any (fun K hK => ?_))
              go_simp
              exact hK _ _ rfl hJ (Below.refl _ _)
            · intro ac wd hJ hfr hdep
              have s12 : ac.tmps.getD 12 undef = .int .i64 (g : Nat) := (hfr 12 (by decide)).trans rfl
              have s12' := slot' s12
              clear hfr hdep
              refine if_wanted rfl (fun Q => op_any (fun K hK => ?_))
              go_simp
              exact hK _ _ rfl hJ (Below.refl _ _)
            · intro ac wd hJ hfr hdep
              have s99 : ac.tmps.getD 99 undef = .int .i64 (g : Nat) := hdep 14 _ 99 (by decide) rfl rfl
              have s99' := slot' s99
              clear hfr hdep
              refine if_wanted rfl (fun Q => op_any (fun K hK => ?_))
              go_simp
              exact hK _ _ rfl hJ (Below.refl _ _)
            · intro ac wd hJ hfr hdep
              have s98 : ac.tmps.getD 98 undef = .int .i64 (at_ : Nat) := hdep 13 _ 98 (by decide) rfl rfl
              have s100 : ac.tmps.getD 100 undef = .int .i64 (4 * (g : Int)) := hdep 15 _ 100 (by decide) rfl rfl
              have s98' := slot' s98
              have s100' := slot' s100
              clear hfr hdep
              refine if_wanted rfl (fun Q => op_any (fun K hK => ?_))
              go_simp
              exact hK _ _ rfl hJ (Below.refl _ _)
            · intro ac wd hJ hfr hdep
              have s101 : ac.tmps.getD 101 undef = .int .i64 ((lo : Nat)) := hdep 16 _ 101 (by decide) rfl rfl
              have s101' := slot' s101
              clear hfr hdep
              refine if_wanted rfl (fun Q => op_any (fun K hK => ?_))
              go_simp
              exact hK _ _ rfl hJ (Below.refl _ _)
            · intro ac wd hJ hfr hdep
              have s93 : ac.tmps.getD 93 undef = .slice (some ⟨b3, 0, none⟩) PL c3 := hdep 8 _ 93 (by decide) rfl rfl
              have s97 : ac.tmps.getD 97 undef = .int .i64 ((lo : Nat)) := hdep 12 _ 97 (by decide) rfl rfl
              have s102 : ac.tmps.getD 102 undef = .int .i64 ((lo : Int) + 4) := hdep 17 _ 102 (by decide) rfl rfl
              have s93' := slot' s93
              have s97' := slot' s97
              have s102' := slot' s102
              clear hfr hdep
              refine if_wanted rfl (fun Q => op_any (fun K hK => ?_))
              go_simp
              exact hK _ _ rfl hJ (Below.refl _ _)
            · intro ac wd hJ hfr hdep
              have s103 : ac.tmps.getD 103 undef = .slice (some ⟨b3, lo, none⟩) 4 (c3 - lo) := hdep 18 _ 103 (by decide) rfl rfl
              have s103' := slot' s103
              clear hfr hdep
              refine if_wanted rfl (fun Q => op_any (fun K hK => ?_))
              go_simp
              refine (HWd.out _ hJ).mono ?_
              rintro e wz ⟨rfl, q, rfl⟩
              exact hK _ _ rfl (below_drewN hJ _) (below_drewN (Below.refl _ _) _)
            · intro ac wd hJ hfr hdep
              have s92 : ac.tmps.getD 92 undef = .int .u32 (q2 : Nat) := hdep 7 _ 92 (by decide) rfl rfl
              have s104 : ac.tmps.getD 104 undef = .int .u32 (mw : Nat) := hdep 19 _ 104 (by decide) rfl rfl
              have s92' := slot' s92
              have s104' := slot' s104
              clear hfr hdep
              refine if_wanted rfl (fun Q => op_any (fun K hK => ?_))
              go_simp
              exact hK _ _ rfl hJ (Below.refl _ _)
            · intro ac wd hJ hfr hdep
              have s105 : ac.tmps.getD 105 undef = .int .u32 (q3 : Nat) := hdep 20 _ 105 (by decide) rfl rfl
              have s105' := slot' s105
              clear hfr hdep
              refine if_wanted rfl (fun Q => op_any (fun K hK => ?_))
              go_simp
              exact hK _ _ rfl hJ (Below.refl _ _)
            intro f26 w6 hJ6 hR
            have e0 : f26 0 = .int .u32 (fx : Nat) := hR 0 (by decide)
            have e1 : f26 1 = .int .u32 (a : Nat) := hR 1 (by decide)
            have e2 : f26 2 = .int .u32 (q1 : Nat) := hR 2 (by decide)
            obtain ⟨g3', e3, hG3'⟩ := hR 3 (by decide)
            have e4 : f26 4 = .int .i64 (i : Nat) := hR 4 (by decide)
            obtain ⟨g5', e5, hG5'⟩ := hR 5 (by decide)
            have e6 : f26 6 = .int .u32 (n : Nat) := hR 6 (by decide)
            have e7 : f26 7 = .int .u32 (q2 : Nat) := hR 7 (by decide)
            have e8 : f26 8 = .slice (some ⟨b3, 0, none⟩) PL c3 := hR 8 (by decide)
            have e9 : f26 9 = .int .i64 (at_ : Nat) := hR 9 (by decide)
            have e10 : f26 10 = .int .i64 (g : Nat) := hR 10 (by decide)
            have e11 : f26 11 = .int .i64 (4 * (g : Int)) := hR 11 (by decide)
            have e12 : f26 12 = .int .i64 ((lo : Nat)) := hR 12 (by decide)
            have e13 : f26 13 = .int .i64 (at_ : Nat) := hR 13 (by decide)
            have e14 : f26 14 = .int .i64 (g : Nat) := hR 14 (by decide)
            have e15 : f26 15 = .int .i64 (4 * (g : Int)) := hR 15 (by decide)
            have e16 : f26 16 = .int .i64 ((lo : Nat)) := hR 16 (by decide)
            have e17 : f26 17 = .int .i64 ((lo : Int) + 4) := hR 17 (by decide)
            have e18 : f26 18 = .slice (some ⟨b3, lo, none⟩) 4 (c3 - lo) := hR 18 (by decide)
            have e19 : f26 19 = .int .u32 (mw : Nat) := hR 19 (by decide)
            have e20 : f26 20 = .int .u32 (q3 : Nat) := hR 20 (by decide)
            have e21 : f26 21 = .int .u32 (q3 : Nat) := hR 21 (by decide)
            clear hR
            simp only [finA, Act.put, List.setIfInBounds_toArray, List.set_cons_succ, List.set_cons_zero, Nat.reduceAdd, e0, e1, e2, e3, e4, e5, e6, e7, e8, e9, e10, e11, e12, e13, e14, e15, e16, e17, e18, e19, e20, e21]
            clear e0 e1 e2 e3 e4 e5 e6 e7 e8 e9 e10 e11 e12 e13 e14 e15 e16 e17 e18 e19 e20 e21
            have hJ6' := hJ6
            go_wp2_with fail
            refine wp_region_specs [
              Spec.val (.int .u32 (b : Nat)),
              Spec.val (.int .u32 (q3 : Nat)),
              Spec.val (.int .i64 (i : Nat)),
              Spec.val (.int .i64 (tt : Nat)),
              Spec.val (.int .u32 (s1 : Nat)),
              Spec.val (.int .u32 (q3 : Nat)),
              Spec.val (.int .i64 (i : Nat)),
              Spec.val (.int .i64 (tt : Nat)),
              Spec.val (.int .i64 (32 - (tt : Int))),
              Spec.val (.int .u32 (s2 : Nat)),
              Spec.val (.int .u32 (r : Nat)),
              Spec.val (.int .u32 (vv : Nat)),
              Spec.val (.int .u32 (vv : Nat))] w6 (by kernel_rfl) (by repeat (first | exact Below.refl _ _ | assumption | refine below_drewN ?_ _ | refine Below.drew ?_ | refine Below.alloc ?_ (Nat.le_refl _) _ | refine bal ?_ _ | refine bnext ?_ (by assumption))) (n := 166) rfl (by decide +kernel) ⟨?_, ?_, ?_, ?_, ?_, ?_, ?_, ?_, ?_, ?_, ?_, ?_, ?_, trivial⟩ ?_
            · intro ac wd hJ hfr hdep
              have s7 : ac.tmps.getD 7 undef = .int .u32 (b : Nat) := (hfr 7 (by decide)).trans rfl
              have s7' := slot' s7
              clear hfr hdep
              refine if_wanted rfl (fun Q => op_any (fun K hK => ?_))
              go_simp
              exact hK _ _ rfl hJ (Below.refl _ _)
            · intro ac wd hJ hfr hdep
              have s11 : ac.tmps.getD 11 undef = .int .u32 (q3 : Nat) := (hfr 11 (by decide)).trans rfl
              have s11' := slot' s11
              clear hfr hdep
              refine if_wanted rfl (fun Q => op_any (fun K hK => ?_))
              go_simp
              exact hK _ _ rfl hJ (Below.refl _ _)
            · intro ac wd hJ hfr hdep
              have s10 : ac.tmps.getD 10 undef = .int .i64 (i : Nat) := (hfr 10 (by decide)).trans rfl
              have s10' := slot' s10
              clear hfr hdep
              refine if_wanted rfl (fun Q => op_any (fun K hK => ?_))
              go_simp
              exact hK _ _ rfl hJ (Below.refl _ _)
            · intro ac wd hJ hfr hdep
              have s111 : ac.tmps.getD 111 undef = .int .i64 (i : Nat) := hdep 2 _ 111 (by decide) rfl rfl
              have s111' := slot' s111
              clear hfr hdep
              refine if_wanted rfl (fun Q => op_any (fun K hK => ?_))
              go_simp
              refine (turns_any i hi64 _).mono ?_
              rw [Htt.out]
              rintro e wz ⟨rfl, hbz⟩
              exact hK _ _ rfl (bnext hJ hbz) hbz
            · intro ac wd hJ hfr hdep
              have s110 : ac.tmps.getD 110 undef = .int .u32 (q3 : Nat) := hdep 1 _ 110 (by decide) rfl rfl
              have s112 : ac.tmps.getD 112 undef = .int .i64 (tt : Nat) := hdep 3 _ 112 (by decide) rfl rfl
              have s110' := slot' s110
              have s112' := slot' s112
              clear hfr hdep
              refine if_wanted rfl (fun Q => op_any (fun K hK => ?_))
              go_simp
              exact hK _ _ rfl hJ (Below.refl _ _)
            · intro ac wd hJ hfr hdep
              have s11 : ac.tmps.getD 11 undef = .int .u32 (q3 : Nat) := (hfr 11 (by decide)).trans rfl
              have s11' := slot' s11
              clear hfr hdep
              refine if_wanted rfl (fun Q => op_any (fun K hK => ?_))
              go_simp
              exact hK _ _ rfl hJ (Below.refl _ _)
            · intro ac wd hJ hfr hdep
              have s10 : ac.tmps.getD 10 undef = .int .i64 (i : Nat) := (hfr 10 (by decide)).trans rfl
              have s10' := slot' s10
              clear hfr hdep
              refine if_wanted rfl (fun Q => op_any (fun K hK => ?_))
              go_simp
              exact hK _ _ rfl hJ (Below.refl _ _)
            · intro ac wd hJ hfr hdep
              have s115 : ac.tmps.getD 115 undef = .int .i64 (i : Nat) := hdep 6 _ 115 (by decide) rfl rfl
              have s115' := slot' s115
              clear hfr hdep
              refine if_wanted rfl (fun Q => op_any (fun K hK => ?_))
              go_simp
              refine (turns_any i hi64 _).mono ?_
              rw [Htt.out]
              rintro e wz ⟨rfl, hbz⟩
              exact hK _ _ rfl (bnext hJ hbz) hbz
            · intro ac wd hJ hfr hdep
              have s116 : ac.tmps.getD 116 undef = .int .i64 (tt : Nat) := hdep 7 _ 116 (by decide) rfl rfl
              have s116' := slot' s116
              clear hfr hdep
              refine if_wanted rfl (fun Q => op_any (fun K hK => ?_))
              go_simp
              exact hK _ _ rfl hJ (Below.refl _ _)
            · intro ac wd hJ hfr hdep
              have s114 : ac.tmps.getD 114 undef = .int .u32 (q3 : Nat) := hdep 5 _ 114 (by decide) rfl rfl
              have s117 : ac.tmps.getD 117 undef = .int .i64 (32 - (tt : Int)) := hdep 8 _ 117 (by decide) rfl rfl
              have s114' := slot' s114
              have s117' := slot' s117
              clear hfr hdep
              refine if_wanted rfl (fun Q => op_any (fun K hK => ?_))
              go_simp
              exact hK _ _ rfl hJ (Below.refl _ _)
            · intro ac wd hJ hfr hdep
              have s113 : ac.tmps.getD 113 undef = .int .u32 (s1 : Nat) := hdep 4 _ 113 (by decide) rfl rfl
              have s118 : ac.tmps.getD 118 undef = .int .u32 (s2 : Nat) := hdep 9 _ 118 (by decide) rfl rfl
              have s113' := slot' s113
              have s118' := slot' s118
              clear hfr hdep
              refine if_wanted rfl (fun Q => op_any (fun K hK => ?_))
              go_simp
              exact hK _ _ rfl hJ (Below.refl _ _)
            · intro ac wd hJ hfr hdep
              have s109 : ac.tmps.getD 109 undef = .int .u32 (b : Nat) := hdep 0 _ 109 (by decide) rfl rfl
              have s119 : ac.tmps.getD 119 undef = .int .u32 (r : Nat) := hdep 10 _ 119 (by decide) rfl rfl
              have s109' := slot' s109
              have s119' := slot' s119
              clear hfr hdep
              refine if_wanted rfl (fun Q => op_any (fun K hK => ?_))
              go_simp
              exact hK _ _ rfl hJ (Below.refl _ _)
            · intro ac wd hJ hfr hdep
              have s120 : ac.tmps.getD 120 undef = .int .u32 (vv : Nat) := hdep 11 _ 120 (by decide) rfl rfl
              have s120' := slot' s120
              clear hfr hdep
              refine if_wanted rfl (fun Q => op_any (fun K hK => ?_))
              go_simp
              exact hK _ _ rfl hJ (Below.refl _ _)
            intro f30 w8 hJ8 hR
            have e0 : f30 0 = .int .u32 (b : Nat) := hR 0 (by decide)
            have e1 : f30 1 = .int .u32 (q3 : Nat) := hR 1 (by decide)
            have e2 : f30 2 = .int .i64 (i : Nat) := hR 2 (by decide)
            have e3 : f30 3 = .int .i64 (tt : Nat) := hR 3 (by decide)
            have e4 : f30 4 = .int .u32 (s1 : Nat) := hR 4 (by decide)
            have e5 : f30 5 = .int .u32 (q3 : Nat) := hR 5 (by decide)
            have e6 : f30 6 = .int .i64 (i : Nat) := hR 6 (by decide)
            have e7 : f30 7 = .int .i64 (tt : Nat) := hR 7 (by decide)
            have e8 : f30 8 = .int .i64 (32 - (tt : Int)) := hR 8 (by decide)
            have e9 : f30 9 = .int .u32 (s2 : Nat) := hR 9 (by decide)
            have e10 : f30 10 = .int .u32 (r : Nat) := hR 10 (by decide)
            have e11 : f30 11 = .int .u32 (vv : Nat) := hR 11 (by decide)
            have e12 : f30 12 = .int .u32 (vv : Nat) := hR 12 (by decide)
            clear hR
            simp only [finA, Act.put, List.setIfInBounds_toArray, List.set_cons_succ, List.set_cons_zero, Nat.reduceAdd, e0, e1, e2, e3, e4, e5, e6, e7, e8, e9, e10, e11, e12]
            clear e0 e1 e2 e3 e4 e5 e6 e7 e8 e9 e10 e11 e12
            go_wp2_with fail
            go_roundw
            case rel => exact ⟨i + 1, by omega, by go_num, by rw [Hst.out], by rw [Hst.out], by rw [Hst.out], by rw [Hst.out], bnext Hbi.out (bnext hJ6 hJ8)⟩
            case measure => simp [intOf] <;> omega
          · skip
            obtain ⟨fx, hfx⟩ : ∃ fx, mixF i b c' d = fx := ⟨_, rfl⟩
            have hfl : fx < 4294967296 := hfx ▸ hmx
            have hz : c' ^^^ (b ||| nt d) = fx := by rw [← hfx, mixF_3 i b c' d g2]
            have e1 := u32_or b (nt d) hb (nt_lt d hd)
            have e2 := u32_xor c' (b ||| nt d) hc (or_lt_pow (n := 32) hb (nt_lt d hd))
            rw [hz] at e2
            have e8 := u32_not d hd
            have e9 := u32_sg
            obtain ⟨g, hge⟩ : ∃ g, mixG i % 16 = g := ⟨_, rfl⟩
            have hgI : (7 * (i : Int)) % 16 = (g : Int) := by rw [← hge, mixG_3 i g2]; omega
            have hci : ¬ (i : Int) < 16 := by omega
            have hci2 : ¬ (i : Int) < 32 := by omega
            have hci3 : ¬ (i : Int) < 48 := by omega
            rw [hge] at HWd hlo hml
            obtain ⟨lo, hloe⟩ : ∃ lo, at_ + 4 * g = lo := ⟨_, rfl⟩
            rw [hloe] at HWd hlo
            rw [Nat.zero_add] at HWd
            have hloI : (at_ : Int) + 4 * (g : Int) = (lo : Int) := by omega
            have hlo4 : (lo : Int) + 4 ≤ PL := by omega
            have hlo0 : (0 : Int) ≤ (lo : Int) := by omega
            have hlon : (lo : Int).toNat = lo := Int.toNat_natCast lo
            have hloc : ¬ c3 = lo := by omega
            have hlo4n : ((lo : Int) + 4).toNat = lo + 4 := by omega
            have hlo4c : (lo : Int) + 4 ≤ c3 := by omega
            have hlos : lo + 4 - lo = 4 := by omega
            obtain ⟨mw, hmw⟩ : ∃ mw, wdF P at_ g = mw := ⟨_, rfl⟩
            rw [hmw] at HWd hml
            obtain ⟨n, hne⟩ : ∃ n, sn i = n := ⟨_, rfl⟩
            rw [hne] at hsnl Hsn
            obtain ⟨q1, hq1⟩ : ∃ q, (fx + a) % 4294967296 = q := ⟨_, rfl⟩
            have f1 : IntKind.u32.wrap ((fx : Int) + (a : Int)) = (q1 : Int) := by rw [← hq1]; have := u32_wrap (fx + a); rwa [Int.natCast_add] at this
            obtain ⟨q2, hq2⟩ : ∃ q, (q1 + n) % 4294967296 = q := ⟨_, rfl⟩
            have f2 : IntKind.u32.wrap ((q1 : Int) + (n : Int)) = (q2 : Int) := by rw [← hq2]; have := u32_wrap (q1 + n); rwa [Int.natCast_add] at this
            obtain ⟨q3, hq3⟩ : ∃ q, (q2 + mw) % 4294967296 = q := ⟨_, rfl⟩
            have f3 : IntKind.u32.wrap ((q2 : Int) + (mw : Int)) = (q3 : Int) := by rw [← hq3]; have := u32_wrap (q2 + mw); rwa [Int.natCast_add] at this
            have hF : fF (wdF P at_) ⟨a, b, c', d⟩ i = q3 := fF_ref _ _ _ fx q1 q2 q3 hfx hq1 (by rw [hne]; exact hq2) (by rw [hge, hmw]; exact hq3)
            have hq3l : q3 < 4294967296 := by omega
            obtain ⟨tt, htt⟩ : ∃ tt, tn i = tt := ⟨_, rfl⟩
            have Htt := Lib.hid htt
            rw [htt] at htnl
            obtain ⟨s1, hs1⟩ : ∃ s1, q3 * 2 ^ tt % 4294967296 = s1 := ⟨_, rfl⟩
            have e4 : IntKind.u32.wrap ((q3 : Int) * 2 ^ tt) = (s1 : Int) := by rw [← hs1]; have := u32_wrap (q3 * 2 ^ tt); rwa [Int.natCast_mul, Int.natCast_pow, Int.cast_ofNat_Int] at this
            obtain ⟨s2, hs2⟩ : ∃ s2, q3 / 2 ^ (32 - tt) = s2 := ⟨_, rfl⟩
            have e5 : (q3 : Int) / 2 ^ (32 - tt) = (s2 : Int) := by rw [← hs2]; simp
            have hs1l : s1 < 4294967296 := by rw [← hs1]; exact Nat.mod_lt _ (by decide)
            have hs2l : s2 < 4294967296 := by rw [← hs2]; exact Nat.lt_of_le_of_lt (Nat.div_le_self _ _) hq3l
            have e6 := u32_or s1 s2 hs1l hs2l
            have hrl : rl q3 tt = s1 ||| s2 := by unfold rl; rw [hs1, hs2]
            obtain ⟨r, hre⟩ : ∃ r, s1 ||| s2 = r := ⟨_, rfl⟩
            rw [hre] at e6 hrl
            obtain ⟨vv, hv⟩ : ∃ v, (b + r) % 4294967296 = v := ⟨_, rfl⟩
            have e7 : IntKind.u32.wrap ((b : Int) + (r : Int)) = (vv : Int) := by rw [← hv]; have := u32_wrap (b + r); rwa [Int.natCast_add] at this
            have Hst : Hid (rnds (wdF P at_) s (i + 1) = ⟨d, vv, b, c'⟩) := by
              show _ = _
              rw [Hn.out, rnd, hF, htt, hrl, hv]
            have ht64 : min tt 64 = tt := by omega
            have ht64' : min (32 - tt) 64 = 32 - tt := by omega
            have htw : IntKind.i64.wrap (32 - (tt : Int)) = 32 - (tt : Int) := by rw [IntKind.wrap_i64]; omega
            have ht0 : (0 : Int) ≤ 32 - (tt : Int) := by omega
            have htI : (0 : Int) ≤ (tt : Int) := by omega
            have htn2 : ((32 : Int) - (tt : Int)).toNat = 32 - tt := by omega
            have hg16 : (g : Int) < 16 := by omega
            have hwa : IntKind.i64.wrap (4 * (g : Int)) = 4 * (g : Int) := by rw [IntKind.wrap_i64]; omega
            have hwb : IntKind.i64.wrap (lo : Int) = (lo : Int) := by rw [IntKind.wrap_i64]; omega
            have hwc : IntKind.i64.wrap ((lo : Int) + 4) = (lo : Int) + 4 := by rw [IntKind.wrap_i64]; omega
            clear hre hv hs1 hs2 hrl hF hq1 hq2 hq3 htt hne hmw hloe hfx Hn hge
            go_wp2_with fail
            refine wp_region_specs [
              Spec.val (.int .u32 (fx : Nat)),
              Spec.val (.int .u32 (a : Nat)),
              Spec.val (.int .u32 (q1 : Nat)),
              SinP,
              Spec.val (.int .i64 (i : Nat)),
              PtrP i,
              Spec.val (.int .u32 (n : Nat)),
              Spec.val (.int .u32 (q2 : Nat)),
              Spec.val (.slice (some ⟨b3, 0, none⟩) PL c3),
              Spec.val (.int .i64 (at_ : Nat)),
              Spec.val (.int .i64 (g : Nat)),
              Spec.val (.int .i64 (4 * (g : Int))),
              Spec.val (.int .i64 ((lo : Nat))),
              Spec.val (.int .i64 (at_ : Nat)),
              Spec.val (.int .i64 (g : Nat)),
              Spec.val (.int .i64 (4 * (g : Int))),
              Spec.val (.int .i64 ((lo : Nat))),
              Spec.val (.int .i64 ((lo : Int) + 4)),
              Spec.val (.slice (some ⟨b3, lo, none⟩) 4 (c3 - lo)),
              Spec.val (.int .u32 (mw : Nat)),
              Spec.val (.int .u32 (q3 : Nat)),
              Spec.val (.int .u32 (q3 : Nat))] wr (by kernel_rfl) (by repeat (first | exact Below.refl _ _ | assumption | refine below_drewN ?_ _ | refine Below.drew ?_ | refine Below.alloc ?_ (Nat.le_refl _) _ | refine bal ?_ _ | refine bnext ?_ (by assumption))) (n := 166) rfl (by decide +kernel) ⟨?_, ?_, ?_, ?_, ?_, ?_, ?_, ?_, ?_, ?_, ?_, ?_, ?_, ?_, ?_, ?_, ?_, ?_, ?_, ?_, ?_, ?_, trivial⟩ ?_
            · intro ac wd hJ hfr hdep
              have s11 : ac.tmps.getD 11 undef = .int .u32 (fx : Nat) := (hfr 11 (by decide)).trans rfl
              have s11' := slot' s11
              clear hfr hdep
              refine if_wanted rfl (fun Q => op_any (fun K hK => ?_))
              go_simp
              exact hK _ _ rfl hJ (Below.refl _ _)
            · intro ac wd hJ hfr hdep
              have s6 : ac.tmps.getD 6 undef = .int .u32 (a : Nat) := (hfr 6 (by decide)).trans rfl
              have s6' := slot' s6
              clear hfr hdep
              refine if_wanted rfl (fun Q => op_any (fun K hK => ?_))
              go_simp
              exact hK _ _ rfl hJ (Below.refl _ _)
            · intro ac wd hJ hfr hdep
              have s85 : ac.tmps.getD 85 undef = .int .u32 (fx : Nat) := hdep 0 _ 85 (by decide) rfl rfl
              have s86 : ac.tmps.getD 86 undef = .int .u32 (a : Nat) := hdep 1 _ 86 (by decide) rfl rfl
              have s85' := slot' s85
              have s86' := slot' s86
              clear hfr hdep
              refine if_wanted rfl (fun Q => op_any (fun K hK => ?_))
              go_simp
              exact hK _ _ rfl hJ (Below.refl _ _)
            · intro ac wd hJ hfr hdep
              skip
              clear hfr hdep
              refine if_wanted rfl (fun Q => op_any (fun K hK => ?_))
              go_simp
              refine (sines_any _).mono ?_
              rintro e wz ⟨rfl, rfl⟩
              exact hK _ _ ⟨_, rfl, heap_alloc_last wd _⟩ (bal hJ _) (bal (Below.refl _ _) _)
            · intro ac wd hJ hfr hdep
              have s10 : ac.tmps.getD 10 undef = .int .i64 (i : Nat) := (hfr 10 (by decide)).trans rfl
              have s10' := slot' s10
              clear hfr hdep
              refine if_wanted rfl (fun Q => op_any (fun K hK => ?_))
              go_simp
              exact hK _ _ rfl hJ (Below.refl _ _)
            · intro ac wd hJ hfr hdep
              obtain ⟨g88, s88, hG88⟩ := hdep 3 _ 88 (by decide) rfl rfl
              have s89 : ac.tmps.getD 89 undef = .int .i64 (i : Nat) := hdep 4 _ 89 (by decide) rfl rfl
              have s88' := slot' s88
              have s89' := slot' s89
              clear hfr hdep
              refine if_wanted rfl (fun Q => op_any (fun K hK => ?_))
              go_simp
              exact hK _ _ ⟨_, rfl, hG88⟩ hJ (Below.refl _ _)
            · intro ac wd hJ hfr hdep
              obtain ⟨g90, s90, hG90⟩ := hdep 5 _ 90 (by decide) rfl rfl
              have s90' := slot' s90
              clear hfr hdep
              refine if_wanted rfl (fun Q => op_any (fun K hK => ?_))
              have hq : wd.cell? ⟨g90, i, none⟩ = some (.int .u32 (n : Nat)) := by rw [cell_of_row _ _ _ _ _ _ hG90]; exact Hsn.out
              go_simp
              exact hK _ _ rfl hJ (Below.refl _ _)
            · intro ac wd hJ hfr hdep
              have s87 : ac.tmps.getD 87 undef = .int .u32 (q1 : Nat) := hdep 2 _ 87 (by decide) rfl rfl
              have s91 : ac.tmps.getD 91 undef = .int .u32 (n : Nat) := hdep 6 _ 91 (by decide) rfl rfl
              have s87' := slot' s87
              have s91' := slot' s91
              clear hfr hdep
              refine if_wanted rfl (fun Q => op_any (fun K hK => ?_))
              go_simp
              exact hK _ _ rfl hJ (Below.refl _ _)
            · intro ac wd hJ hfr hdep
              have s3 : ac.tmps.getD 3 undef = .slice (some ⟨b3, 0, none⟩) PL c3 := (hfr 3 (by decide)).trans rfl
              have s3' := slot' s3
              clear hfr hdep
              refine if_wanted rfl (fun Q => op_any (fun K hK => ?_))
              go_simp
              exact hK _ _ rfl hJ (Below.refl _ _)
            · intro ac wd hJ hfr hdep
              have s5 : ac.tmps.getD 5 undef = .int .i64 (at_ : Nat) := (hfr 5 (by decide)).trans rfl
              have s5' := slot' s5
              clear hfr hdep
              refine if_wanted rfl (fun Q => op_any (fun K hK => ?_))
              go_simp
              exact hK _ _ rfl hJ (Below.refl _ _)
            · intro ac wd hJ hfr hdep
              have s12 : ac.tmps.getD 12 undef = .int .i64 (g : Nat) := (hfr 12 (by decide)).trans rfl
              have s12' := slot' s12
              clear hfr hdep
              refine if_wanted rfl (fun Q => op_any (fun K hK => ?_))
              go_simp
              exact hK _ _ rfl hJ (Below.refl _ _)
            · intro ac wd hJ hfr hdep
              have s95 : ac.tmps.getD 95 undef = .int .i64 (g : Nat) := hdep 10 _ 95 (by decide) rfl rfl
              have s95' := slot' s95
              clear hfr hdep
              refine if_wanted rfl (fun Q => op_any (fun K hK => ?_))
              go_simp
              exact hK _ _ rfl hJ (Below.refl _ _)
            · intro ac wd hJ hfr hdep
              have s94 : ac.tmps.getD 94 undef = .int .i64 (at_ : Nat) := hdep 9 _ 94 (by decide) rfl rfl
              have s96 : ac.tmps.getD 96 undef = .int .i64 (4 * (g : Int)) := hdep 11 _ 96 (by decide) rfl rfl
              have s94' := slot' s94
              have s96' := slot' s96
              clear hfr hdep
              refine if_wanted rfl (fun Q => op_any (fun K hK => ?_))
              go_simp
              exact hK _ _ rfl hJ (Below.refl _ _)
            · intro ac wd hJ hfr hdep
              have s5 : ac.tmps.getD 5 undef = .int .i64 (at_ : Nat) := (hfr 5 (by decide)).trans rfl
              have s5' := slot' s5
              clear hfr hdep
              refine if_wanted rfl (fun Q => op_any (fun K hK => ?_))
              go_simp
              exact hK _ _ rfl hJ (Below.refl _ _)
            · intro ac wd hJ hfr hdep
              have s12 : ac.tmps.getD 12 undef = .int .i64 (g : Nat) := (hfr 12 (by decide)).trans rfl
              have s12' := slot' s12
              clear hfr hdep
              refine if_wanted rfl (fun Q => op_any (fun K hK => ?_))
              go_simp
              exact hK _ _ rfl hJ (Below.refl _ _)
            · intro ac wd hJ hfr hdep
              have s99 : ac.tmps.getD 99 undef = .int .i64 (g : Nat) := hdep 14 _ 99 (by decide) rfl rfl
              have s99' := slot' s99
              clear hfr hdep
              refine if_wanted rfl (fun Q => op_any (fun K hK => ?_))
              go_simp
              exact hK _ _ rfl hJ (Below.refl _ _)
            · intro ac wd hJ hfr hdep
              have s98 : ac.tmps.getD 98 undef = .int .i64 (at_ : Nat) := hdep 13 _ 98 (by decide) rfl rfl
              have s100 : ac.tmps.getD 100 undef = .int .i64 (4 * (g : Int)) := hdep 15 _ 100 (by decide) rfl rfl
              have s98' := slot' s98
              have s100' := slot' s100
              clear hfr hdep
              refine if_wanted rfl (fun Q => op_any (fun K hK => ?_))
              go_simp
              exact hK _ _ rfl hJ (Below.refl _ _)
            · intro ac wd hJ hfr hdep
              have s101 : ac.tmps.getD 101 undef = .int .i64 ((lo : Nat)) := hdep 16 _ 101 (by decide) rfl rfl
              have s101' := slot' s101
              clear hfr hdep
              refine if_wanted rfl (fun Q => op_any (fun K hK => ?_))
              go_simp
              exact hK _ _ rfl hJ (Below.refl _ _)
            · intro ac wd hJ hfr hdep
              have s93 : ac.tmps.getD 93 undef = .slice (some ⟨b3, 0, none⟩) PL c3 := hdep 8 _ 93 (by decide) rfl rfl
              have s97 : ac.tmps.getD 97 undef = .int .i64 ((lo : Nat)) := hdep 12 _ 97 (by decide) rfl rfl
              have s102 : ac.tmps.getD 102 undef = .int .i64 ((lo : Int) + 4) := hdep 17 _ 102 (by decide) rfl rfl
              have s93' := slot' s93
              have s97' := slot' s97
              have s102' := slot' s102
              clear hfr hdep
              refine if_wanted rfl (fun Q => op_any (fun K hK => ?_))
              go_simp
              exact hK _ _ rfl hJ (Below.refl _ _)
            · intro ac wd hJ hfr hdep
              have s103 : ac.tmps.getD 103 undef = .slice (some ⟨b3, lo, none⟩) 4 (c3 - lo) := hdep 18 _ 103 (by decide) rfl rfl
              have s103' := slot' s103
              clear hfr hdep
              refine if_wanted rfl (fun Q => op_any (fun K hK => ?_))
              go_simp
              refine (HWd.out _ hJ).mono ?_
              rintro e wz ⟨rfl, q, rfl⟩
              exact hK _ _ rfl (below_drewN hJ _) (below_drewN (Below.refl _ _) _)
            · intro ac wd hJ hfr hdep
              have s92 : ac.tmps.getD 92 undef = .int .u32 (q2 : Nat) := hdep 7 _ 92 (by decide) rfl rfl
              have s104 : ac.tmps.getD 104 undef = .int .u32 (mw : Nat) := hdep 19 _ 104 (by decide) rfl rfl
              have s92' := slot' s92
              have s104' := slot' s104
              clear hfr hdep
              refine if_wanted rfl (fun Q => op_any (fun K hK => ?_))
              go_simp
              exact hK _ _ rfl hJ (Below.refl _ _)
            · intro ac wd hJ hfr hdep
              have s105 : ac.tmps.getD 105 undef = .int .u32 (q3 : Nat) := hdep 20 _ 105 (by decide) rfl rfl
              have s105' := slot' s105
              clear hfr hdep
              refine if_wanted rfl (fun Q => op_any (fun K hK => ?_))
              go_simp
              exact hK _ _ rfl hJ (Below.refl _ _)
            intro f26 w6 hJ6 hR
            have e0 : f26 0 = .int .u32 (fx : Nat) := hR 0 (by decide)
            have e1 : f26 1 = .int .u32 (a : Nat) := hR 1 (by decide)
            have e2 : f26 2 = .int .u32 (q1 : Nat) := hR 2 (by decide)
            obtain ⟨g3', e3, hG3'⟩ := hR 3 (by decide)
            have e4 : f26 4 = .int .i64 (i : Nat) := hR 4 (by decide)
            obtain ⟨g5', e5, hG5'⟩ := hR 5 (by decide)
            have e6 : f26 6 = .int .u32 (n : Nat) := hR 6 (by decide)
            have e7 : f26 7 = .int .u32 (q2 : Nat) := hR 7 (by decide)
            have e8 : f26 8 = .slice (some ⟨b3, 0, none⟩) PL c3 := hR 8 (by decide)
            have e9 : f26 9 = .int .i64 (at_ : Nat) := hR 9 (by decide)
            have e10 : f26 10 = .int .i64 (g : Nat) := hR 10 (by decide)
            have e11 : f26 11 = .int .i64 (4 * (g : Int)) := hR 11 (by decide)
            have e12 : f26 12 = .int .i64 ((lo : Nat)) := hR 12 (by decide)
            have e13 : f26 13 = .int .i64 (at_ : Nat) := hR 13 (by decide)
            have e14 : f26 14 = .int .i64 (g : Nat) := hR 14 (by decide)
            have e15 : f26 15 = .int .i64 (4 * (g : Int)) := hR 15 (by decide)
            have e16 : f26 16 = .int .i64 ((lo : Nat)) := hR 16 (by decide)
            have e17 : f26 17 = .int .i64 ((lo : Int) + 4) := hR 17 (by decide)
            have e18 : f26 18 = .slice (some ⟨b3, lo, none⟩) 4 (c3 - lo) := hR 18 (by decide)
            have e19 : f26 19 = .int .u32 (mw : Nat) := hR 19 (by decide)
            have e20 : f26 20 = .int .u32 (q3 : Nat) := hR 20 (by decide)
            have e21 : f26 21 = .int .u32 (q3 : Nat) := hR 21 (by decide)
            clear hR
            simp only [finA, Act.put, List.setIfInBounds_toArray, List.set_cons_succ, List.set_cons_zero, Nat.reduceAdd, e0, e1, e2, e3, e4, e5, e6, e7, e8, e9, e10, e11, e12, e13, e14, e15, e16, e17, e18, e19, e20, e21]
            clear e0 e1 e2 e3 e4 e5 e6 e7 e8 e9 e10 e11 e12 e13 e14 e15 e16 e17 e18 e19 e20 e21
            have hJ6' := hJ6
            go_wp2_with fail
            refine wp_region_specs [
              Spec.val (.int .u32 (b : Nat)),
              Spec.val (.int .u32 (q3 : Nat)),
              Spec.val (.int .i64 (i : Nat)),
              Spec.val (.int .i64 (tt : Nat)),
              Spec.val (.int .u32 (s1 : Nat)),
              Spec.val (.int .u32 (q3 : Nat)),
              Spec.val (.int .i64 (i : Nat)),
              Spec.val (.int .i64 (tt : Nat)),
              Spec.val (.int .i64 (32 - (tt : Int))),
              Spec.val (.int .u32 (s2 : Nat)),
              Spec.val (.int .u32 (r : Nat)),
              Spec.val (.int .u32 (vv : Nat)),
              Spec.val (.int .u32 (vv : Nat))] w6 (by kernel_rfl) (by repeat (first | exact Below.refl _ _ | assumption | refine below_drewN ?_ _ | refine Below.drew ?_ | refine Below.alloc ?_ (Nat.le_refl _) _ | refine bal ?_ _ | refine bnext ?_ (by assumption))) (n := 166) rfl (by decide +kernel) ⟨?_, ?_, ?_, ?_, ?_, ?_, ?_, ?_, ?_, ?_, ?_, ?_, ?_, trivial⟩ ?_
            · intro ac wd hJ hfr hdep
              have s7 : ac.tmps.getD 7 undef = .int .u32 (b : Nat) := (hfr 7 (by decide)).trans rfl
              have s7' := slot' s7
              clear hfr hdep
              refine if_wanted rfl (fun Q => op_any (fun K hK => ?_))
              go_simp
              exact hK _ _ rfl hJ (Below.refl _ _)
            · intro ac wd hJ hfr hdep
              have s11 : ac.tmps.getD 11 undef = .int .u32 (q3 : Nat) := (hfr 11 (by decide)).trans rfl
              have s11' := slot' s11
              clear hfr hdep
              refine if_wanted rfl (fun Q => op_any (fun K hK => ?_))
              go_simp
              exact hK _ _ rfl hJ (Below.refl _ _)
            · intro ac wd hJ hfr hdep
              have s10 : ac.tmps.getD 10 undef = .int .i64 (i : Nat) := (hfr 10 (by decide)).trans rfl
              have s10' := slot' s10
              clear hfr hdep
              refine if_wanted rfl (fun Q => op_any (fun K hK => ?_))
              go_simp
              exact hK _ _ rfl hJ (Below.refl _ _)
            · intro ac wd hJ hfr hdep
              have s111 : ac.tmps.getD 111 undef = .int .i64 (i : Nat) := hdep 2 _ 111 (by decide) rfl rfl
              have s111' := slot' s111
              clear hfr hdep
              refine if_wanted rfl (fun Q => op_any (fun K hK => ?_))
              go_simp
              refine (turns_any i hi64 _).mono ?_
              rw [Htt.out]
              rintro e wz ⟨rfl, hbz⟩
              exact hK _ _ rfl (bnext hJ hbz) hbz
            · intro ac wd hJ hfr hdep
              have s110 : ac.tmps.getD 110 undef = .int .u32 (q3 : Nat) := hdep 1 _ 110 (by decide) rfl rfl
              have s112 : ac.tmps.getD 112 undef = .int .i64 (tt : Nat) := hdep 3 _ 112 (by decide) rfl rfl
              have s110' := slot' s110
              have s112' := slot' s112
              clear hfr hdep
              refine if_wanted rfl (fun Q => op_any (fun K hK => ?_))
              go_simp
              exact hK _ _ rfl hJ (Below.refl _ _)
            · intro ac wd hJ hfr hdep
              have s11 : ac.tmps.getD 11 undef = .int .u32 (q3 : Nat) := (hfr 11 (by decide)).trans rfl
              have s11' := slot' s11
              clear hfr hdep
              refine if_wanted rfl (fun Q => op_any (fun K hK => ?_))
              go_simp
              exact hK _ _ rfl hJ (Below.refl _ _)
            · intro ac wd hJ hfr hdep
              have s10 : ac.tmps.getD 10 undef = .int .i64 (i : Nat) := (hfr 10 (by decide)).trans rfl
              have s10' := slot' s10
              clear hfr hdep
              refine if_wanted rfl (fun Q => op_any (fun K hK => ?_))
              go_simp
              exact hK _ _ rfl hJ (Below.refl _ _)
            · intro ac wd hJ hfr hdep
              have s115 : ac.tmps.getD 115 undef = .int .i64 (i : Nat) := hdep 6 _ 115 (by decide) rfl rfl
              have s115' := slot' s115
              clear hfr hdep
              refine if_wanted rfl (fun Q => op_any (fun K hK => ?_))
              go_simp
              refine (turns_any i hi64 _).mono ?_
              rw [Htt.out]
              rintro e wz ⟨rfl, hbz⟩
              exact hK _ _ rfl (bnext hJ hbz) hbz
            · intro ac wd hJ hfr hdep
              have s116 : ac.tmps.getD 116 undef = .int .i64 (tt : Nat) := hdep 7 _ 116 (by decide) rfl rfl
              have s116' := slot' s116
              clear hfr hdep
              refine if_wanted rfl (fun Q => op_any (fun K hK => ?_))
              go_simp
              exact hK _ _ rfl hJ (Below.refl _ _)
            · intro ac wd hJ hfr hdep
              have s114 : ac.tmps.getD 114 undef = .int .u32 (q3 : Nat) := hdep 5 _ 114 (by decide) rfl rfl
              have s117 : ac.tmps.getD 117 undef = .int .i64 (32 - (tt : Int)) := hdep 8 _ 117 (by decide) rfl rfl
              have s114' := slot' s114
              have s117' := slot' s117
              clear hfr hdep
              refine if_wanted rfl (fun Q => op_any (fun K hK => ?_))
              go_simp
              exact hK _ _ rfl hJ (Below.refl _ _)
            · intro ac wd hJ hfr hdep
              have s113 : ac.tmps.getD 113 undef = .int .u32 (s1 : Nat) := hdep 4 _ 113 (by decide) rfl rfl
              have s118 : ac.tmps.getD 118 undef = .int .u32 (s2 : Nat) := hdep 9 _ 118 (by decide) rfl rfl
              have s113' := slot' s113
              have s118' := slot' s118
              clear hfr hdep
              refine if_wanted rfl (fun Q => op_any (fun K hK => ?_))
              go_simp
              exact hK _ _ rfl hJ (Below.refl _ _)
            · intro ac wd hJ hfr hdep
              have s109 : ac.tmps.getD 109 undef = .int .u32 (b : Nat) := hdep 0 _ 109 (by decide) rfl rfl
              have s119 : ac.tmps.getD 119 undef = .int .u32 (r : Nat) := hdep 10 _ 119 (by decide) rfl rfl
              have s109' := slot' s109
              have s119' := slot' s119
              clear hfr hdep
              refine if_wanted rfl (fun Q => op_any (fun K hK => ?_))
              go_simp
              exact hK _ _ rfl hJ (Below.refl _ _)
            · intro ac wd hJ hfr hdep
              have s120 : ac.tmps.getD 120 undef = .int .u32 (vv : Nat) := hdep 11 _ 120 (by decide) rfl rfl
              have s120' := slot' s120
              clear hfr hdep
              refine if_wanted rfl (fun Q => op_any (fun K hK => ?_))
              go_simp
              exact hK _ _ rfl hJ (Below.refl _ _)
            intro f30 w8 hJ8 hR
            have e0 : f30 0 = .int .u32 (b : Nat) := hR 0 (by decide)
            have e1 : f30 1 = .int .u32 (q3 : Nat) := hR 1 (by decide)
            have e2 : f30 2 = .int .i64 (i : Nat) := hR 2 (by decide)
            have e3 : f30 3 = .int .i64 (tt : Nat) := hR 3 (by decide)
            have e4 : f30 4 = .int .u32 (s1 : Nat) := hR 4 (by decide)
            have e5 : f30 5 = .int .u32 (q3 : Nat) := hR 5 (by decide)
            have e6 : f30 6 = .int .i64 (i : Nat) := hR 6 (by decide)
            have e7 : f30 7 = .int .i64 (tt : Nat) := hR 7 (by decide)
            have e8 : f30 8 = .int .i64 (32 - (tt : Int)) := hR 8 (by decide)
            have e9 : f30 9 = .int .u32 (s2 : Nat) := hR 9 (by decide)
            have e10 : f30 10 = .int .u32 (r : Nat) := hR 10 (by decide)
            have e11 : f30 11 = .int .u32 (vv : Nat) := hR 11 (by decide)
            have e12 : f30 12 = .int .u32 (vv : Nat) := hR 12 (by decide)
            clear hR
            simp only [finA, Act.put, List.setIfInBounds_toArray, List.set_cons_succ, List.set_cons_zero, Nat.reduceAdd, e0, e1, e2, e3, e4, e5, e6, e7, e8, e9, e10, e11, e12]
            clear e0 e1 e2 e3 e4 e5 e6 e7 e8 e9 e10 e11 e12
            go_wp2_with fail
            go_roundw
            case rel => exact ⟨i + 1, by omega, by go_num, by rw [Hst.out], by rw [Hst.out], by rw [Hst.out], by rw [Hst.out], bnext Hbi.out (bnext hJ6 hJ8)⟩
            case measure => simp [intOf] <;> omega
        · obtain rfl : i = 64 := by omega
          rw [show ((64 : Nat) : Int) = 64 from rfl]
          have Hh4 := Lib.hid (hrow_below Hh.out Hbi.out)
          have HO4 := Lib.hid (hrow_below HO.out Hbi.out)
          have Hrd4 := Lib.hid (Hrd.out.below Hbi.out)
          have Hb4 := Lib.hid (bnext Hb.out Hbi.out)
          have Hx := Lib.hid (Hrok.out 64)
          generalize rnds (wdF P at_) s 64 = x at *
          obtain ⟨a, b, c', d⟩ := x
          obtain ⟨sa, sb, sc, sd⟩ := s
          simp only at hok Hx Hnx ⊢
          have hh0 := free_blk Hh4.out 0
          have hh1 := free_blk Hh4.out 1
          have hh2 := free_blk Hh4.out 2
          have hh3 := free_blk Hh4.out 3
          have hx0 : wr.cell? ⟨h, 0, none⟩ = some (.int .u32 (sa : Nat)) := by rw [cell_of_row _ _ 0 _ _ _ Hh4.out]; simp [stC]
          have hx1 : wr.cell? ⟨h, 1, none⟩ = some (.int .u32 (sb : Nat)) := by rw [cell_of_row _ _ 1 _ _ _ Hh4.out]; simp [stC]
          have hx2 : wr.cell? ⟨h, 2, none⟩ = some (.int .u32 (sc : Nat)) := by rw [cell_of_row _ _ 2 _ _ _ Hh4.out]; simp [stC]
          have hx3 : wr.cell? ⟨h, 3, none⟩ = some (.int .u32 (sd : Nat)) := by rw [cell_of_row _ _ 3 _ _ _ Hh4.out]; simp [stC]
          obtain ⟨v0, hv0⟩ : ∃ v, (sa + a) % 4294967296 = v := ⟨_, rfl⟩
          obtain ⟨v1, hv1⟩ : ∃ v, (sb + b) % 4294967296 = v := ⟨_, rfl⟩
          obtain ⟨v2, hv2⟩ : ∃ v, (sc + c') % 4294967296 = v := ⟨_, rfl⟩
          obtain ⟨v3, hv3⟩ : ∃ v, (sd + d) % 4294967296 = v := ⟨_, rfl⟩
          have e0 : IntKind.u32.wrap ((sa : Int) + (a : Int)) = (v0 : Int) := by rw [← hv0]; have := u32_wrap (sa + a); rwa [Int.natCast_add] at this
          have e1 : IntKind.u32.wrap ((sb : Int) + (b : Int)) = (v1 : Int) := by rw [← hv1]; have := u32_wrap (sb + b); rwa [Int.natCast_add] at this
          have e2 : IntKind.u32.wrap ((sc : Int) + (c' : Int)) = (v2 : Int) := by rw [← hv2]; have := u32_wrap (sc + c'); rwa [Int.natCast_add] at this
          have e3 : IntKind.u32.wrap ((sd : Int) + (d : Int)) = (v3 : Int) := by rw [← hv3]; have := u32_wrap (sd + d); rwa [Int.natCast_add] at this
          have Hn4 : Hid (HH P (k + 1) = ⟨v0, v1, v2, v3⟩) := by
            show _ = _
            rw [Hnx.out]
            simp only [addS, hv0, hv1, hv2, hv3]
          clear hv0 hv1 hv2 hv3 hok Hx Hnx Hrn Hr0 Hrok
          have Hk1 : Hid (k + 1 ≤ K ∧ ((at_ : Int) + 64 = ((64 * (k + 1) : Nat) : Int))) := ⟨hkk, by have := Hat.out; omega⟩
          have hatw : IntKind.i64.wrap ((at_ : Int) + 64) = (at_ : Int) + 64 := by rw [IntKind.wrap_i64]; omega
          go_wp2_with fail
          go_roundw
          case rel =>
            refine ⟨k + 1, Hk1.out.1, by first | (rw [hatw, Hk1.out.2]) | (rw [Hk1.out.2]), ?_, ?_, ?_, ?_⟩
            · show _ = _
              rw [Hn4.out]
              exact hrow_set (hrow_set (hrow_set (hrow_set Hh4.out rfl) rfl) rfl) rfl
            · show _ = _
              have hne : w.heap.size ≠ h := Nat.ne_of_lt HOh.out
              exact (heap_setCell_other _ _ _ _ hne).trans ((heap_setCell_other _ _ _ _ hne).trans ((heap_setCell_other _ _ _ _ hne).trans ((heap_setCell_other _ _ _ _ hne).trans HO4.out)))
            · show Rd _ _ _
              have hne : b3 ≠ h := Nat.ne_of_lt Hb3s.out
              exact (((Hrd4.out.set_other hne _ _).set_other hne _ _).set_other hne _ _).set_other hne _ _
            · show Below _ _ _
              have hle : w.heap.size ≤ h := Nat.le_of_lt HOh.out
              exact (((Hb4.out.setCell (p := ⟨h, 0, none⟩) hle _).setCell (p := ⟨h, 1, none⟩) hle _).setCell (p := ⟨h, 2, none⟩) hle _).setCell (p := ⟨h, 3, none⟩) hle _
          case measure => simp [intOf] <;> omega
    · have hkK : k = K := by omega
      subst hkK
      have hatP : ((64 * k : Nat) : Int) = PL := by have := HPL.out; omega
      rw [hatP]
      have hat9 : ¬ (PL : Int) < PL := by omega
      have hs16 : (0 : Int) < 16 := by omega
      rw [← Hm.out] at Hh
      have Hsok : Hid ((mdS l).ok) := by
        show S4.ok _
        rw [Hm.out]; exact HH_ok P k
      have HOne : Hid (w.heap.size ≠ wr.heap.size) := Nat.ne_of_lt ((Array.getElem?_eq_some_iff.1 HO.out).1)
      have HX : Hid ((wr.alloc (.cells #[.int .u8 0, .int .u8 0, .int .u8 0, .int .u8 0, .int .u8 0, .int .u8 0, .int .u8 0, .int .u8 0, .int .u8 0, .int .u8 0, .int .u8 0, .int .u8 0, .int .u8 0, .int .u8 0, .int .u8 0, .int .u8 0] 24)).heap[wr.heap.size]? = some (.cells (osR (mdS l) 0) 24 (0, 0))) := heap_alloc_last wr _
      have Hh5 := Lib.hid (hrow_alloc Hh.out (.cells #[.int .u8 0, .int .u8 0, .int .u8 0, .int .u8 0, .int .u8 0, .int .u8 0, .int .u8 0, .int .u8 0, .int .u8 0, .int .u8 0, .int .u8 0, .int .u8 0, .int .u8 0, .int .u8 0, .int .u8 0, .int .u8 0] 24))
      have HO5 := Lib.hid (hrow_alloc HO.out (.cells #[.int .u8 0, .int .u8 0, .int .u8 0, .int .u8 0, .int .u8 0, .int .u8 0, .int .u8 0, .int .u8 0, .int .u8 0, .int .u8 0, .int .u8 0, .int .u8 0, .int .u8 0, .int .u8 0, .int .u8 0, .int .u8 0] 24))
      have Hb5 := Lib.hid (bal Hb.out (.cells #[.int .u8 0, .int .u8 0, .int .u8 0, .int .u8 0, .int .u8 0, .int .u8 0, .int .u8 0, .int .u8 0, .int .u8 0, .int .u8 0, .int .u8 0, .int .u8 0, .int .u8 0, .int .u8 0, .int .u8 0, .int .u8 0] 24))
      have HXw : Hid (w.heap.size ≤ wr.heap.size) := Nat.le_of_lt ((Array.getElem?_eq_some_iff.1 HO.out).1)
      have HXh : Hid (h ≠ wr.heap.size) := Nat.ne_of_lt ((Array.getElem?_eq_some_iff.1 Hh.out).1)
      obtain ⟨s, hs⟩ : ∃ s, mdS l = s := ⟨_, rfl⟩
      rw [hs] at HX Hh5 HO5 Hsok
      have Hs := Lib.hid hs
      clear hs Hh HO Hb Hrd hatP Hm HPL HPe
      go_upto_region 36 with fail
      obtain ⟨X, hX⟩ : ∃ X, wr.heap.size = X := ⟨_, rfl⟩
      generalize wr.alloc (.cells #[.int .u8 0, .int .u8 0, .int .u8 0, .int .u8 0, .int .u8 0, .int .u8 0, .int .u8 0, .int .u8 0, .int .u8 0, .int .u8 0, .int .u8 0, .int .u8 0, .int .u8 0, .int .u8 0, .int .u8 0, .int .u8 0] 24) = wx at *
      rw [hX] at HX HXw HXh HOne ⊢
      clear hX
      go_wp2_with fail
      go_loopw [14] (fun i wr => ∃ k : Nat, k ≤ 16 ∧ i = .int .i64 k ∧ Hid (wr.heap[X]? = some (.cells (osR s k) 24 (0, 0))) ∧ Hid (wr.heap[w.heap.size]? = some (.cells (osR s 0) 24 (0, 0))) ∧ Hid (wr.heap[h]? = some (.cells (stC s).toArray 47 (0, 0))) ∧ Hid (Below w.heap.size w wr)) (fun i _ => 16 - (intOf i).toNat)
      case atStart => exact ⟨0, by omega, rfl, HX.out, HO5.out, Hh5.out, Hb5.out⟩
      case round =>
        obtain ⟨k, hk, rfl, HXk, HOk, Hhk, Hbk⟩ := hrel
        clear HX HO5 Hh5 Hb5
        by_cases hkk : k < 16
        · have hk16 : (k : Int) < 16 := by omega
          have hk0 : (0 : Int) ≤ (k : Int) := by omega
          have hr0 : wr.cell? ⟨h, k / 4, none⟩ = some (.int .u32 (s.g (k / 4) : Nat)) := by
            rw [cell_of_row _ _ (k / 4) _ _ _ Hhk.out]
            rcases four (k / 4) (by omega) with e | e | e | e <;> rw [e] <;> simp [stC, S4.g]
          have hx0 : wr.cell? ⟨X, k, none⟩ = some (.int .u8 0) := by
            rw [cell_of_row _ _ k _ _ _ HXk.out, osR_at s k k hkk, if_neg (by omega)]; rfl
          have hf := free_blk HXk.out k
          have Hset := Lib.hid (osR_set s k hkk)
          have hq0 : (0 : Int) ≤ (k : Int) / 4 := by omega
          have hq1 : (k : Int) / 4 < 4 := by omega
          have hqn : ((k : Int) / 4).toNat = k / 4 := by omega
          have hr1 : (0 : Int) ≤ 8 * ((k : Int) % 4) := by omega
          have hrn : (8 * ((k : Int) % 4)).toNat = 8 * (k % 4) := by omega
          have hm64 : min (8 * (k % 4)) 64 = 8 * (k % 4) := by omega
          have hm32 : min (8 * (k % 4)) 32 = 8 * (k % 4) := by omega
          have hbS : byteS s k = s.g (k / 4) / 2 ^ (8 * (k % 4)) % 256 := rfl
          have hu := u8_wrap (s.g (k / 4) / 2 ^ (8 * (k % 4)))
          rw [← hbS, Int.natCast_ediv, Int.natCast_pow, Int.cast_ofNat_Int] at hu
          generalize byteS s k = bS at *
          have hgl := g_lt s Hsok.out (k / 4)
          generalize s.g (k / 4) = q at *
          clear hbS
          go_wp2_with fail
          go_roundw
          case rel => exact ⟨k + 1, by omega, by go_num, hrow_set HXk.out Hset.out, (heap_setCell_other wr _ _ _ HOne.out).trans HOk.out, (heap_setCell_other wr _ _ _ HXh.out).trans Hhk.out, Hbk.out.setCell (p := ⟨X, k, none⟩) HXw.out _⟩
          case measure => simp [intOf] <;> omega
        · obtain rfl : k = 16 := by omega
          rw [show ((16 : Nat) : Int) = 16 from rfl]
          go_wp2_with (first | (refine wpList_load_row rfl 24 _ rfl X rfl 24 (osR s 16) (0, 0) _ HXk.out Tryd.underlying24 rfl (osR_info s 16) ?_) | (refine wpList_store_row (c := osR s 0) (c' := osR s 16) (t := 24) rfl 24 _ _ rfl w.heap.size rfl rfl HOk.out (osR_info s 16) (by rw [osR_size, osR_size]) (osR_one s 16) ?_))
          exact bodyPost_ret (results_cell_row (cs := osR s 16) (t := 24) (fr := (0, 0)) (g := w.heap.size) Tryd.results10 _ _ _ rfl (setRow_heap _ w.heap.size _ _ 24 (0, 0) HOk.out) Tryd.underlying24 rfl (osR_info s 16)) rfl ⟨by rw [Hs.out], Below.setRow Hbk.out (Nat.le_refl _) _⟩
end Go.Proofs.YtibhhebfenkeaaaDoor
