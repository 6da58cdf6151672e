/-
  info.Write: the walk. (Printed by wip/gen/write.py.)
-/
import Derived.Test.YtikgpohoggpldaaBig
namespace Go.Proofs.Ytikgpohoggpldaa
open Go.RowKit

theorem or_mod (X Y : Int) (k : Nat) (hk : k ≤ 63) (K : Int) (hK : ((2 ^ k : Nat) : Int) = K) (hX : X % K = 0) (hY0 : 0 ≤ Y) (hY : Y < K) :
    bits .or .i64 X Y % 18446744073709551616 = (X + Y) % 18446744073709551616 := by
  subst hK
  have hb : bits .or .i64 X Y = IntKind.i64.wrap ((BitVec.ofInt 64 X ||| BitVec.ofInt 64 Y).toNat : Int) := rfl
  have h1 := ofInt_any X
  have h2 := ofInt_any Y
  have hq1 : 2 ^ k ≤ 2 ^ 63 := Nat.pow_le_pow_right (by omega) hk
  have hq0 : 0 < 2 ^ k := Nat.pow_pos (by omega)
  have hd : ((2 ^ k : Nat) : Int) ∣ 18446744073709551616 := by
    have : (2 ^ k : Nat) ∣ 2 ^ 64 := Nat.pow_dvd_pow 2 (by omega)
    exact Int.ofNat_dvd.2 this
  rw [hb, BitVec.toNat_or]
  generalize (BitVec.ofInt 64 X).toNat = p at *
  generalize (BitVec.ofInt 64 Y).toNat = q at *
  have hK63 : ((2 ^ k : Nat) : Int) ≤ 9223372036854775808 := Int.ofNat_le.2 hq1
  have hqY : (q : Int) = Y := by rw [h2]; exact Int.emod_eq_of_lt hY0 (by omega)
  have hp : ((p % 2 ^ k : Nat) : Int) = 0 := by rw [Int.natCast_emod, h1, Int.emod_emod_of_dvd _ hd, hX]
  obtain ⟨r, hr⟩ : ∃ r, p = r * 2 ^ k := ⟨p / 2 ^ k, by have := Nat.div_add_mod p (2 ^ k); rw [Nat.mul_comm]; omega⟩
  have e : p ||| q = p + q := by rw [hr, ← Nat.shiftLeft_eq, Nat.shiftLeft_add_eq_or_of_lt (by have h9 : (q : Int) < ((2 ^ k : Nat) : Int) := hqY ▸ hY; exact Int.ofNat_lt.1 h9)]
  clear hr hp hX hd
  have hqY2 : (q : Int) = Y := hqY
  rw [e, IntKind.wrap_i64, Int.natCast_add, hqY2, h1]
  clear e h1 h2 hqY hqY2 hq1 hq0 hY hY0
  omega

def SlN (w : World) (v : Value) (l : List Nat) : Prop := ∃ A c, v = .slice A l.length c ∧ l.length ≤ c ∧ Rd w A (nv8 l) ∧ (A = none → c = 0)
def SlN.spec (l : List Nat) : Spec := .rel (fun v w => SlN w v l) fun _ _ _ ⟨A, c, e, hc, hr, hn⟩ hb => ⟨A, c, e, hc, hr.below hb, hn⟩
def SlSN (w : World) (v : Value) (ls : List (List Nat)) : Prop := ∃ A c vs, v = .slice A ls.length c ∧ Rd w A vs ∧ BSN w vs ls
def SlSN.spec (ls : List (List Nat)) : Spec := .rel (fun v w => SlSN w v ls) fun _ _ _ ⟨A, c, vs, e, hr, hB⟩ hb => ⟨A, c, vs, e, hr.below hb, hB.below hb⟩
def OwnS.spec (base : Nat) (e : TypeId) (n : Nat) (xs : List Value) : Spec := .rel (fun v w => ∃ v', v = v' ∧ w.ownsRow base e 1 v' n xs) fun _ _ _ ⟨v', e, h⟩ hb => ⟨v', e, ownsRow_below h hb⟩
theorem SlSN.new (w : World) (vs : List Value) (ls : List (List Nat)) (t : TypeId) {n : Nat} (hn : ls.length = n) (hB : BSN w vs ls) : SlSN (w.alloc (.cells vs.toArray t)) (.slice (some ⟨w.heap.size, 0, none⟩) n n) ls := by
  subst hn
  exact ⟨_, _, vs, rfl, by simpa using Rd.new w vs.toArray t, hB.below (bal (Below.refl _ _) _)⟩

/-- The number that the last eight bytes ahead of the sum are. -/
def restN (p0 p1 p2 tt : Int) : Int := p0 * 17592186044416 + (p1 - 1) * 2199023255552 + (p2 - 1) * 68719476736 + tt
theorem rest_of (p0 p1 p2 tt : Int) (h0 : 0 ≤ p0 ∧ p0 ≤ 1048575) (h1 : 1 ≤ p1 ∧ p1 ≤ 8) (h2 : 1 ≤ p2 ∧ p2 ≤ 32) (h3 : 0 ≤ tt ∧ tt ≤ 68719476735) :
    bits .or .i64 (bits .or .i64 (bits .or .i64 (wrap64 (p0 * 17592186044416)) ((p1 - 1) * 2199023255552)) ((p2 - 1) * 68719476736)) tt % 18446744073709551616 = restN p0 p1 p2 tt % 18446744073709551616 := by
  unfold restN
  have a1 := or_mod (wrap64 (p0 * 17592186044416)) ((p1 - 1) * 2199023255552) 44 (by omega) 17592186044416 (by decide) (by unfold wrap64; omega) (by omega) (by omega)
  generalize bits .or .i64 (wrap64 (p0 * 17592186044416)) ((p1 - 1) * 2199023255552) = X1 at *
  have a2 := or_mod X1 ((p2 - 1) * 68719476736) 41 (by omega) 2199023255552 (by decide) (by unfold wrap64 at a1; omega) (by omega) (by omega)
  generalize bits .or .i64 X1 ((p2 - 1) * 68719476736) = X2 at *
  have a3 := or_mod X2 tt 36 (by omega) 68719476736 (by decide) (by unfold wrap64 at a1; omega) (by omega) (by omega)
  generalize bits .or .i64 X2 tt = X3 at *
  have hw : wrap64 (p0 * 17592186044416) % 18446744073709551616 = p0 * 17592186044416 % 18446744073709551616 := by unfold wrap64; omega
  generalize wrap64 (p0 * 17592186044416) = X0 at *
  omega

def wrB (mn mx mf xf R : Int) (s : Nat → Int) : List Nat := [lowB mn 2, lowB mx 2, lowB mf 3, lowB xf 3, lowB R 8].flatten ++ (List.range 16).map fun i => (s i).toNat
theorem mayB_true {p0 p1 p2 mn mx mf xf tt : Int} (h : mayB p0 p1 p2 mn mx mf xf tt = true) : (1 ≤ p0 ∧ p0 ≤ 1048575) ∧ (1 ≤ p1 ∧ p1 ≤ 8) ∧ (4 ≤ p2 ∧ p2 ≤ 32) ∧ (16 ≤ mn ∧ mn ≤ 65535) ∧ (mn ≤ mx ∧ mx ≤ 65535) ∧ (0 ≤ mf ∧ mf ≤ 16777215) ∧ (0 ≤ xf ∧ xf ≤ 16777215) ∧ (0 ≤ tt ∧ tt ≤ 68719476735) := by
  unfold mayB at h
  simp only [Bool.and_eq_true, decide_eq_true_eq] at h
  omega
theorem sum_nv8 (s : Nat → Int) (hs : ∀ i, i < 16 → 0 ≤ s i ∧ s i < 256) : nv8 ((List.range 16).map fun i => (s i).toNat) = [.int .u8 (s 0), .int .u8 (s 1), .int .u8 (s 2), .int .u8 (s 3), .int .u8 (s 4), .int .u8 (s 5), .int .u8 (s 6), .int .u8 (s 7), .int .u8 (s 8), .int .u8 (s 9), .int .u8 (s 10), .int .u8 (s 11), .int .u8 (s 12), .int .u8 (s 13), .int .u8 (s 14), .int .u8 (s 15)] := by
  have h : ∀ i, i < 16 → (((s i).toNat : Nat) : Int) = s i := fun i hi => Int.toNat_of_nonneg (hs i hi).1
  show [Value.int .u8 _, .int .u8 _, .int .u8 _, .int .u8 _, .int .u8 _, .int .u8 _, .int .u8 _, .int .u8 _, .int .u8 _, .int .u8 _, .int .u8 _, .int .u8 _, .int .u8 _, .int .u8 _, .int .u8 _, .int .u8 _] = _
  rw [h 0 (by omega), h 1 (by omega), h 2 (by omega), h 3 (by omega), h 4 (by omega), h 5 (by omega), h 6 (by omega), h 7 (by omega), h 8 (by omega), h 9 (by omega), h 10 (by omega), h 11 (by omega), h 12 (by omega), h 13 (by omega), h 14 (by omega), h 15 (by omega)]

set_option maxHeartbeats 1000000 in
theorem Write_no (p0 p1 p2 mn mx mf xf tt : Int) (s : Nat → Int) (hm : mayB p0 p1 p2 mn mx mf xf tt = false) (w : World) :
    Calls Try.prog 18 #[.agg (ofV p0 p1 p2 mn mx mf xf tt s)] w fun e w' => e = .returned (.tuple #[.slice none 0 0, .int .i64 10]) ∧ Below w.heap.size w w' := by
  have HC := Lib.hid (check_any p0 p1 p2 mn mx mf xf tt s)
  rw [hm] at HC
  have hI : InfAt (w.alloc (.cells (ofV p0 p1 p2 mn mx mf xf tt s) 34)) w.heap.size p0 p1 p2 mn mx mf xf tt s := InfAt.new rfl
  have HI := Lib.hid hI; clear hI
  have Hsz : Hid ((ofV p0 p1 p2 mn mx mf xf tt s).size = 24) := rfl
  have Hcl : Hid ((ofV p0 p1 p2 mn mx mf xf tt s).toList.length = 24) := rfl
  unfold InfAt at HI
  generalize ofV p0 p1 p2 mn mx mf xf tt s = V at *
  go_enter Try.func18, Try.ntmps18
  go_wp2_with (refine wpList_load_row_g (by rfl) 34 _ rfl w.heap.size rfl 34 V (0, 0) _ HI.out Try.underlying34 rfl (by rw [Hsz.out]; kernel_rfl) ?_)
  refine (HC.out _).mono ?_
  rintro e w1 ⟨rfl, hb1⟩
  simp only [chk]
  go_wp2_with fail
  go_ret2
  exact ⟨rfl, by repeat (first | exact Below.refl _ _ | assumption | refine below_drewN ?_ _ | refine Below.drew ?_ | refine Below.alloc ?_ (Nat.le_refl _) _ | refine bal ?_ _ | refine bnext ?_ (by assumption))⟩

set_option maxRecDepth 100000 in
set_option maxHeartbeats 2000000 in
theorem Write_ok (p0 p1 p2 mn mx mf xf tt : Int) (s : Nat → Int) (hm : mayB p0 p1 p2 mn mx mf xf tt = true) (hs : ∀ i, i < 16 → 0 ≤ s i ∧ s i < 256) (w : World) :
    Calls Try.prog 18 #[.agg (ofV p0 p1 p2 mn mx mf xf tt s)] w fun e w' => ∃ v R, e = .returned (.tuple #[v, .int .i64 0]) ∧ R % 18446744073709551616 = restN p0 p1 p2 tt % 18446744073709551616 ∧ Hid (w'.ownsRow w.heap.size 5 1 v 34 (nv8 (wrB mn mx mf xf R s))) ∧ Below w.heap.size w w' := by
  have HC := Lib.hid (check_any p0 p1 p2 mn mx mf xf tt s)
  rw [hm] at HC
  obtain ⟨b0, b1, b2, b3, b4, b5, b6, b7⟩ := mayB_true hm
  have HR := Lib.hid (rest_of p0 p1 p2 tt (by omega) b1 (by omega) b7)
  have Hsum := Lib.hid (sum_nv8 s hs)
  clear hm hs
  have hI : InfAt (w.alloc (.cells (ofV p0 p1 p2 mn mx mf xf tt s) 34)) w.heap.size p0 p1 p2 mn mx mf xf tt s := InfAt.new rfl
  have HI := Lib.hid hI; clear hI
  have Hsz : Hid ((ofV p0 p1 p2 mn mx mf xf tt s).size = 24) := rfl
  have HIof : Hid (∀ W, W.heap[w.heap.size]? = some (.cells (ofV p0 p1 p2 mn mx mf xf tt s) 34 (0, 0)) → InfAt W w.heap.size p0 p1 p2 mn mx mf xf tt s) := fun W h => h
  unfold InfAt at HI
  generalize ofV p0 p1 p2 mn mx mf xf tt s = V at *
  go_enter Try.func18, Try.ntmps18
  go_wp2_with (refine wpList_load_row_g (by rfl) 34 _ rfl w.heap.size rfl 34 V (0, 0) _ HI.out Try.underlying34 rfl (by rw [Hsz.out]; kernel_rfl) ?_)
  refine (HC.out _).mono ?_
  rintro e w1 ⟨rfl, hb1⟩
  simp only [chk]
  have HI1 := Lib.hid (HIof.out w1 (hrow_below HI.out hb1))
  have hb2 : Below w.heap.size w w1 := by repeat (first | exact Below.refl _ _ | assumption | refine below_drewN ?_ _ | refine Below.drew ?_ | refine Below.alloc ?_ (Nat.le_refl _) _ | refine bal ?_ _ | refine bnext ?_ (by assumption))
  clear hb1 HI HIof HC
  have hj0 := HI1.out.cell 0 (.int .i64 p0) rfl
  have hj1 := HI1.out.cell 1 (.int .i64 p1) rfl
  have hj2 := HI1.out.cell 2 (.int .i64 p2) rfl
  have hj7 := HI1.out.cell 7 (.int .i64 tt) rfl
  go_upto_region 5 with fail
  have HRR := HR.out
  generalize bits .or .i64 (bits .or .i64 (bits .or .i64 (wrap64 (p0 * 17592186044416)) ((p1 - 1) * 2199023255552)) ((p2 - 1) * 68719476736)) tt = R at *
  clear HR
  have hJ0 : Below w1.heap.size w1 w1 := Below.refl _ _
  have HIW : Hid (∀ W, Below w1.heap.size w1 W → InfAt W w.heap.size p0 p1 p2 mn mx mf xf tt s) := fun W hW => hrow_below HI1.out hW
  have hwl : w.heap.size < w1.heap.size := HI1.out.lt
  clear hj0 hj1 hj2 hj7 HI1
  refine wp_region_specs [
    Spec.val (.pointer (some ⟨w.heap.size, 3, none⟩)),
    Spec.val (.int .i64 mn),
    SlN.spec (lowB mn 2),
    Spec.val (.pointer (some ⟨w.heap.size, 4, none⟩)),
    Spec.val (.int .i64 mx),
    SlN.spec (lowB mx 2),
    Spec.val (.pointer (some ⟨w.heap.size, 5, none⟩)),
    Spec.val (.int .i64 mf),
    SlN.spec (lowB mf 3),
    Spec.val (.pointer (some ⟨w.heap.size, 6, none⟩)),
    Spec.val (.int .i64 xf),
    SlN.spec (lowB xf 3),
    Spec.val ((.int .i64 R)),
    SlN.spec (lowB R 8),
    SlSN.spec [lowB mn 2, lowB mx 2, lowB mf 3, lowB xf 3, lowB R 8],
    OwnS.spec w1.heap.size 5 18 (nv8 ([lowB mn 2, lowB mx 2, lowB mf 3, lowB xf 3, lowB R 8].flatten)),
    OwnS.spec w1.heap.size 5 18 (nv8 ([lowB mn 2, lowB mx 2, lowB mf 3, lowB xf 3, lowB R 8].flatten))] w1 (by kernel_rfl) (by repeat (first | exact Below.refl _ _ | assumption | refine below_drewN ?_ _ | refine Below.drew ?_ | refine Below.alloc ?_ (Nat.le_refl _) _ | refine bal ?_ _ | refine bnext ?_ (by assumption))) (n := 51) rfl (by decide +kernel) ⟨?_, ?_, ?_, ?_, ?_, ?_, ?_, ?_, ?_, ?_, ?_, ?_, ?_, ?_, ?_, ?_, ?_, trivial⟩ ?_
  · intro ac wd hJ hfr hdep
    have s1 : ac.tmps.getD 1 undef = .pointer (some ⟨w.heap.size, 0, none⟩) := (hfr 1 (by decide)).trans rfl
    have s1' := slot' s1
    clear hfr hdep
    refine if_wanted rfl (fun Q => op_any (fun K hK => ?_))
    go_simp
    exact hK _ _ rfl hJ (Below.refl _ _)
  · intro ac wd hJ hfr hdep
    have s31 : ac.tmps.getD 31 undef = .pointer (some ⟨w.heap.size, 3, none⟩) := hdep 0 _ 31 (by decide) rfl rfl
    have s31' := slot' s31
    clear hfr hdep
    refine if_wanted rfl (fun Q => op_any (fun K hK => ?_))
    have hx := (HIW.out wd hJ).cell 3 _ rfl
    go_simp
    exact hK _ _ rfl hJ (Below.refl _ _)
  · intro ac wd hJ hfr hdep
    have s32 : ac.tmps.getD 32 undef = .int .i64 mn := hdep 1 _ 32 (by decide) rfl rfl
    have s32' := slot' s32
    clear hfr hdep
    refine if_wanted rfl (fun Q => op_any (fun K hK => ?_))
    go_simp
    refine (big_any mn 2 (by decide) (by decide) _).mono ?_
    rintro e wz ⟨v, rfl, hown, hbz⟩
    obtain ⟨A, c, rfl, hc, hr, hn⟩ := own_nilcap hown.out
    exact hK _ _ ⟨A, c, by rw [lowB_length], by rw [lowB_length]; exact hc, hr, hn⟩ (bnext hJ hbz) hbz
  · intro ac wd hJ hfr hdep
    have s1 : ac.tmps.getD 1 undef = .pointer (some ⟨w.heap.size, 0, none⟩) := (hfr 1 (by decide)).trans rfl
    have s1' := slot' s1
    clear hfr hdep
    refine if_wanted rfl (fun Q => op_any (fun K hK => ?_))
    go_simp
    exact hK _ _ rfl hJ (Below.refl _ _)
  · intro ac wd hJ hfr hdep
    have s34 : ac.tmps.getD 34 undef = .pointer (some ⟨w.heap.size, 4, none⟩) := hdep 3 _ 34 (by decide) rfl rfl
    have s34' := slot' s34
    clear hfr hdep
    refine if_wanted rfl (fun Q => op_any (fun K hK => ?_))
    have hx := (HIW.out wd hJ).cell 4 _ rfl
    go_simp
    exact hK _ _ rfl hJ (Below.refl _ _)
  · intro ac wd hJ hfr hdep
    have s35 : ac.tmps.getD 35 undef = .int .i64 mx := hdep 4 _ 35 (by decide) rfl rfl
    have s35' := slot' s35
    clear hfr hdep
    refine if_wanted rfl (fun Q => op_any (fun K hK => ?_))
    go_simp
    refine (big_any mx 2 (by decide) (by decide) _).mono ?_
    rintro e wz ⟨v, rfl, hown, hbz⟩
    obtain ⟨A, c, rfl, hc, hr, hn⟩ := own_nilcap hown.out
    exact hK _ _ ⟨A, c, by rw [lowB_length], by rw [lowB_length]; exact hc, hr, hn⟩ (bnext hJ hbz) hbz
  · intro ac wd hJ hfr hdep
    have s1 : ac.tmps.getD 1 undef = .pointer (some ⟨w.heap.size, 0, none⟩) := (hfr 1 (by decide)).trans rfl
    have s1' := slot' s1
    clear hfr hdep
    refine if_wanted rfl (fun Q => op_any (fun K hK => ?_))
    go_simp
    exact hK _ _ rfl hJ (Below.refl _ _)
  · intro ac wd hJ hfr hdep
    have s37 : ac.tmps.getD 37 undef = .pointer (some ⟨w.heap.size, 5, none⟩) := hdep 6 _ 37 (by decide) rfl rfl
    have s37' := slot' s37
    clear hfr hdep
    refine if_wanted rfl (fun Q => op_any (fun K hK => ?_))
    have hx := (HIW.out wd hJ).cell 5 _ rfl
    go_simp
    exact hK _ _ rfl hJ (Below.refl _ _)
  · intro ac wd hJ hfr hdep
    have s38 : ac.tmps.getD 38 undef = .int .i64 mf := hdep 7 _ 38 (by decide) rfl rfl
    have s38' := slot' s38
    clear hfr hdep
    refine if_wanted rfl (fun Q => op_any (fun K hK => ?_))
    go_simp
    refine (big_any mf 3 (by decide) (by decide) _).mono ?_
    rintro e wz ⟨v, rfl, hown, hbz⟩
    obtain ⟨A, c, rfl, hc, hr, hn⟩ := own_nilcap hown.out
    exact hK _ _ ⟨A, c, by rw [lowB_length], by rw [lowB_length]; exact hc, hr, hn⟩ (bnext hJ hbz) hbz
  · intro ac wd hJ hfr hdep
    have s1 : ac.tmps.getD 1 undef = .pointer (some ⟨w.heap.size, 0, none⟩) := (hfr 1 (by decide)).trans rfl
    have s1' := slot' s1
    clear hfr hdep
    refine if_wanted rfl (fun Q => op_any (fun K hK => ?_))
    go_simp
    exact hK _ _ rfl hJ (Below.refl _ _)
  · intro ac wd hJ hfr hdep
    have s40 : ac.tmps.getD 40 undef = .pointer (some ⟨w.heap.size, 6, none⟩) := hdep 9 _ 40 (by decide) rfl rfl
    have s40' := slot' s40
    clear hfr hdep
    refine if_wanted rfl (fun Q => op_any (fun K hK => ?_))
    have hx := (HIW.out wd hJ).cell 6 _ rfl
    go_simp
    exact hK _ _ rfl hJ (Below.refl _ _)
  · intro ac wd hJ hfr hdep
    have s41 : ac.tmps.getD 41 undef = .int .i64 xf := hdep 10 _ 41 (by decide) rfl rfl
    have s41' := slot' s41
    clear hfr hdep
    refine if_wanted rfl (fun Q => op_any (fun K hK => ?_))
    go_simp
    refine (big_any xf 3 (by decide) (by decide) _).mono ?_
    rintro e wz ⟨v, rfl, hown, hbz⟩
    obtain ⟨A, c, rfl, hc, hr, hn⟩ := own_nilcap hown.out
    exact hK _ _ ⟨A, c, by rw [lowB_length], by rw [lowB_length]; exact hc, hr, hn⟩ (bnext hJ hbz) hbz
  · intro ac wd hJ hfr hdep
    have s5 : ac.tmps.getD 5 undef = (.int .i64 R) := (hfr 5 (by decide)).trans rfl
    have s5' := slot' s5
    clear hfr hdep
    refine if_wanted rfl (fun Q => op_any (fun K hK => ?_))
    go_simp
    exact hK _ _ rfl hJ (Below.refl _ _)
  · intro ac wd hJ hfr hdep
    have s43 : ac.tmps.getD 43 undef = (.int .i64 R) := hdep 12 _ 43 (by decide) rfl rfl
    have s43' := slot' s43
    clear hfr hdep
    refine if_wanted rfl (fun Q => op_any (fun K hK => ?_))
    go_simp
    refine (big_any R 8 (by decide) (by decide) _).mono ?_
    rintro e wz ⟨v, rfl, hown, hbz⟩
    obtain ⟨A, c, rfl, hc, hr, hn⟩ := own_nilcap hown.out
    exact hK _ _ ⟨A, c, by rw [lowB_length], by rw [lowB_length]; exact hc, hr, hn⟩ (bnext hJ hbz) hbz
  · intro ac wd hJ hfr hdep
    obtain ⟨A33, c33, s33, hc33, hr33, hn33⟩ := hdep 2 _ 33 (by decide) rfl rfl
    obtain ⟨A36, c36, s36, hc36, hr36, hn36⟩ := hdep 5 _ 36 (by decide) rfl rfl
    obtain ⟨A39, c39, s39, hc39, hr39, hn39⟩ := hdep 8 _ 39 (by decide) rfl rfl
    obtain ⟨A42, c42, s42, hc42, hr42, hn42⟩ := hdep 11 _ 42 (by decide) rfl rfl
    obtain ⟨A44, c44, s44, hc44, hr44, hn44⟩ := hdep 13 _ 44 (by decide) rfl rfl
    have s33' := slot' s33
    have s36' := slot' s36
    have s39' := slot' s39
    have s42' := slot' s42
    have s44' := slot' s44
    clear hfr hdep
    refine if_wanted rfl (fun Q => op_any (fun K hK => ?_))
    go_simp
    exact hK _ _ (SlSN.new wd [.slice A33 _ c33, .slice A36 _ c36, .slice A39 _ c39, .slice A42 _ c42, .slice A44 _ c44] [lowB mn 2, lowB mx 2, lowB mf 3, lowB xf 3, lowB R 8] _ rfl ⟨rfl, fun j x y h1 h2 => by
      match j, h1, h2 with
      | 0, h1, h2 => (simp at h1 h2; subst h1; subst h2; exact ⟨_, _, rfl, hc33, hr33, hn33⟩)
      | 1, h1, h2 => (simp at h1 h2; subst h1; subst h2; exact ⟨_, _, rfl, hc36, hr36, hn36⟩)
      | 2, h1, h2 => (simp at h1 h2; subst h1; subst h2; exact ⟨_, _, rfl, hc39, hr39, hn39⟩)
      | 3, h1, h2 => (simp at h1 h2; subst h1; subst h2; exact ⟨_, _, rfl, hc42, hr42, hn42⟩)
      | 4, h1, h2 => (simp at h1 h2; subst h1; subst h2; exact ⟨_, _, rfl, hc44, hr44, hn44⟩)⟩) (bal hJ _) (bal (Below.refl _ _) _)
  · intro ac wd hJ hfr hdep
    obtain ⟨A45, c45, vs45, s45, hr45, hB45⟩ := hdep 14 _ 45 (by decide) rfl rfl
    have s45' := slot' s45
    clear hfr hdep
    refine if_wanted rfl (fun Q => op_any (fun K hK => ?_))
    go_simp
    refine (Concat_any [lowB mn 2, lowB mx 2, lowB mf 3, lowB xf 3, lowB R 8] A45 c45 vs45 _ hr45 hB45 (by simp) (by simp [lowB_length]) (by simp [lowB_length])).mono ?_
    rintro e wz ⟨v, rfl, hown, hbz⟩
    have h18 : [lowB mn 2, lowB mx 2, lowB mf 3, lowB xf 3, lowB R 8].flatten.length = 18 := by simp [lowB_length]
    rw [h18] at hown
    exact hK _ _ ⟨v, rfl, ownsRow_less hown.out hJ.size⟩ (bnext hJ hbz) hbz
  · intro ac wd hJ hfr hdep
    obtain ⟨v46, s46, ho46⟩ := hdep 15 _ 46 (by decide) rfl rfl
    have s46' := slot' s46
    clear hfr hdep
    refine if_wanted rfl (fun Q => op_any (fun K hK => ?_))
    go_simp
    exact hK _ _ ⟨v46, rfl, ho46⟩ hJ (Below.refl _ _)
  intro f w' hJ hR
  have e0 : f 0 = .pointer (some ⟨w.heap.size, 3, none⟩) := hR 0 (by decide)
  have e1 : f 1 = .int .i64 mn := hR 1 (by decide)
  obtain ⟨A2', c2', e2, hc2', hr2', hn2'⟩ := hR 2 (by decide)
  have e3 : f 3 = .pointer (some ⟨w.heap.size, 4, none⟩) := hR 3 (by decide)
  have e4 : f 4 = .int .i64 mx := hR 4 (by decide)
  obtain ⟨A5', c5', e5, hc5', hr5', hn5'⟩ := hR 5 (by decide)
  have e6 : f 6 = .pointer (some ⟨w.heap.size, 5, none⟩) := hR 6 (by decide)
  have e7 : f 7 = .int .i64 mf := hR 7 (by decide)
  obtain ⟨A8', c8', e8, hc8', hr8', hn8'⟩ := hR 8 (by decide)
  have e9 : f 9 = .pointer (some ⟨w.heap.size, 6, none⟩) := hR 9 (by decide)
  have e10 : f 10 = .int .i64 xf := hR 10 (by decide)
  obtain ⟨A11', c11', e11, hc11', hr11', hn11'⟩ := hR 11 (by decide)
  have e12 : f 12 = (.int .i64 R) := hR 12 (by decide)
  obtain ⟨A13', c13', e13, hc13', hr13', hn13'⟩ := hR 13 (by decide)
  obtain ⟨A14', c14', vs14', e14, hr14', hB14'⟩ := hR 14 (by decide)
  obtain ⟨v15', e15, ho15'⟩ := hR 15 (by decide)
  obtain ⟨v16', e16, ho16'⟩ := hR 16 (by decide)
  clear hR
  simp only [finA, Act.put, List.setIfInBounds_toArray, List.set_cons_succ, List.set_cons_zero, Nat.reduceAdd, e0, e1, e2, e3, e4, e5, e6, e7, e8, e9, e10, e11, e12, e13, e14, e15, e16]
  clear e0 e1 e2 e3 e4 e5 e6 e7 e8 e9 e10 e11 e12 e13 e14 e15 e16
  have HI2 := Lib.hid (HIW.out w' hJ)
  have HO := Lib.hid ho16'
  have Hrd : Hid (Rd w' (some ⟨w.heap.size, 8, none⟩) (nv8 ((List.range 16).map fun i => (s i).toNat))) := by
    show Rd _ _ _
    rw [Hsum.out]
    intro j u hu
    exact ⟨_, _, rfl, InfAt.sum HI2.out j u hu⟩
  have H16 : Hid ((nv8 ((List.range 16).map fun i => (s i).toNat)).length = 16) := by show _ = _; simp [nv8]
  have Hone := Lib.hid (nv8_one ((List.range 16).map fun i => (s i).toNat))
  have Hw : Hid (nv8 (wrB mn mx mf xf R s) = nv8 ([lowB mn 2, lowB mx 2, lowB mf 3, lowB xf 3, lowB R 8].flatten) ++ nv8 ((List.range 16).map fun i => (s i).toNat)) := by show _ = _; rw [wrB, nv8_append]
  have hb3 : Below w.heap.size w w' := hb2.trans (hJ.mono hb2.size)
  have hle : w1.heap.size ≤ w'.heap.size := hJ.size
  have hle2 : w.heap.size ≤ w1.heap.size := hb2.size
  clear ho16' HI2 HIW
  generalize nv8 ((List.range 16).map fun i => (s i).toNat) = ys at *
  go_wp2_with (at_builtin; refine appN (w0 := w) (base := w1.heap.size) rfl _ _ 41 rfl Try.underlying41 info_u8 rfl rfl HO.out hle2 hle hb3 rfl Hrd.out H16.out (fun h => by cases h) Hone.out (by decide) (by decide) ?_; intro v1 w6 own1 hb6 hs6 hnil6; have Hown1 := Lib.hid own1; have Hb6 := Lib.hid hb6; clear own1 hb6 hnil6)
  go_ret2
  exact ⟨_, R, rfl, HRR, by rw [Hw.out]; exact ownsRow_less Hown1.out hle2, Hb6.out⟩
end Go.Proofs.Ytikgpohoggpldaa
