/-
  jetsamlaw01.does: both readers answer alike. (Printed by wip/gen/does.py.)
-/
import Derived.Test.YtfncmgojeaeihaaRefRe01
import Derived.Test.YtfncmgojeaeihaaMono
import Derived.Test.YtfncmgojeaeihaaAll01
namespace Go.Proofs.Ytfncmgojeaeihaa
open Go.RowKit

theorem zs_congr {f g : Nat → Nat} : ∀ m t, (∀ i, i < m → f (t + i) = g (t + i)) → zs f t m = zs g t m
  | 0, _, _ => rfl
  | m + 1, t, h => by
    have h0 := h 0 (by omega)
    rw [Nat.add_zero] at h0
    have h1 := zs_congr m (t + 1) (f := f) (g := g) (fun i hi => by
      have h2 := h (i + 1) (by omega)
      rw [show t + (i + 1) = t + 1 + i from by omega] at h2
      exact h2)
    rw [zs, zs, h0, h1]
section
variable (l : List UInt8) (t : Nat)
theorem bf_bitL (i : Nat) (h : i < 8 * l.length) : bf (bitL l (8 * l.length)) i = bitAt l i := bitL_get l _ i h
theorem sub_get {bs : List Nat} {t k i : Nat} (h : i < k) : ((bs.drop t).take k).getD i 0 = bs.getD (t + i) 0 := by
  simp only [List.getD_eq_getElem?_getD, List.getElem?_take, List.getElem?_drop]
  rw [if_pos h]
theorem rtV_u (n : Int) : rtV (bitL l (8 * l.length)) t n false = (tkV l t n : Nat) := by
  unfold rtV tkV
  rw [bitL_length]
  by_cases hE : tkE n (8 * l.length - t) = 0
  · rw [if_pos hE, if_pos hE]
    have hm : ((bitL l (8 * l.length)).drop t |>.take n.toNat).length = n.toNat := by
      have := tkE_ok hE
      rw [List.length_take, List.length_drop, bitL_length]; omega
    have h := numZ_u (bitAt l) ((bitL l (8 * l.length)).drop t |>.take n.toNat) t (fun i hi => by
      rw [sub_get (by omega)]
      refine bitL_get l _ _ ?_
      have := tkE_ok hE
      omega)
    rw [hm] at h
    exact h
  · rw [if_neg hE, if_neg hE]; rfl
theorem rtV_s (n : Int) : rtV (bitL l (8 * l.length)) t n true = sdV l t n := by
  unfold rtV sdV
  rw [bitL_length]
  by_cases hE : tkE n (8 * l.length - t) = 0
  · rw [if_pos hE, if_pos hE]
    have hm : ((bitL l (8 * l.length)).drop t |>.take n.toNat).length = n.toNat := by
      have := tkE_ok hE
      rw [List.length_take, List.length_drop, bitL_length]; omega
    have h := numZ_s (bitAt l) (bitAt_lt l) ((bitL l (8 * l.length)).drop t |>.take n.toNat) t (fun i hi => by
      rw [sub_get (by omega)]
      refine bitL_get l _ _ ?_
      have := tkE_ok hE
      omega)
    rw [hm] at h
    exact h
  · rw [if_neg hE, if_neg hE]
theorem rtT_eq (n : Int) : rtT (bitL l (8 * l.length)) t n = tkT l t n := by rw [rtT, tkT, bitL_length]
theorem zs_bitL : zs (bf (bitL l (8 * l.length))) t (8 * l.length - t) = zs (bitAt l) t (8 * l.length - t) := zs_congr _ _ fun i hi => bf_bitL l _ (by omega)
theorem ruE_eq : ruE (bitL l (8 * l.length)) t = unE l t := by rw [ruE, unE, bitL_length, zs_bitL]
theorem ruV_eq : ruV (bitL l (8 * l.length)) t = unV l t := by rw [ruV, unV, bitL_length, zs_bitL]
theorem ruT_eq : ruT (bitL l (8 * l.length)) t = unT l t := by rw [ruT, unT, bitL_length, zs_bitL]
theorem sg_bitL (h : t ≤ 8 * l.length) : sg (bf (bitL l (8 * l.length))) t (alN t) = sg (bitAt l) t (alN t) := sg_congr _ _ fun i hi => bf_bitL l _ (by unfold alN at hi; omega)
theorem raE_eq (h : t ≤ 8 * l.length) : raE (bitL l (8 * l.length)) t = alE l t := by rw [raE, alE, sg_bitL l t h]
theorem raV_eq (h : t ≤ 8 * l.length) : raV (bitL l (8 * l.length)) t = alV l t := by rw [raV, alV, sg_bitL l t h]
theorem raT_eq (h : t ≤ 8 * l.length) : raT (bitL l (8 * l.length)) t = alT l t := by rw [raT, alT, sg_bitL l t h]
end
/-- Both readers behind a call. -/
def DoesPost (R X : Nat) (A A2 : Option Addr) (l : List UInt8) (c c2 : Nat) (w : World) (e : Ending) (w' : World) : Prop :=
  e = .returned (.bool true) ∧ ∃ t, Rdr w' R t A l c ∧ RRdr w' X t A2 (bitL l (8 * l.length)) c2 ∧ Fr (fun k => k = R ∨ k = X) w w'

set_option maxRecDepth 100000 in
set_option maxHeartbeats 4000000 in
theorem does_any (R X t : Nat) (A A2 : Option Addr) (l : List UInt8) (c c2 : Nat) (a n v : Int) (w : World) (hr : Rdr w R t A l c) (hx : RRdr w X t A2 (bitL l (8 * l.length)) c2)
    (hXR : ¬ X = R) (hA2 : ∀ k o, A2 = some ⟨k, o, none⟩ → ¬ k = R) (hA : ∀ k o, A = some ⟨k, o, none⟩ → 0 < (bv l).length → ¬ k = X) (hl : l.length ≤ 1000000) :
    Calls Try.prog 22 #[.pointer (some ⟨R, 0, none⟩), .pointer (some ⟨X, 0, none⟩), .agg #[.int .i64 a, .int .i64 n, .int .i64 v]] w (DoesPost R X A A2 l c c2 w) := by
  have HR0 := Lib.hid (fun o => hr.below (bal (Below.refl _ w) o))
  have HX0 := Lib.hid (fun o => hx.below (bal (Below.refl _ w) o))
  have HAR := Lib.hid hA2
  have HAX := Lib.hid hA
  have ht := hr.le
  have hBR : ¬ w.heap.size = R := fun e => by have := (Array.getElem?_eq_some_iff.1 hr.row).1; omega
  have hO1 : Hid ((w.alloc (.cells #[.int .i64 a, .int .i64 n, .int .i64 v] 47)).cell? ⟨w.heap.size, 1, none⟩ = some (.int .i64 n)) := cell_of_row _ w.heap.size 1 _ _ _ (heap_alloc_new w _)
  have Hht := Lib.hid ht
  have q1 := rtV_u l t n
  have q2 := rtV_s l t n
  have q3 := rtT_eq l t n
  have q4 := ruE_eq l t
  have q5 := ruV_eq l t
  have q6 := ruT_eq l t
  have q7 := raE_eq l t ht
  have q8 := raV_eq l t ht
  have q9 := raT_eq l t ht
  have K0 := Lib.hid (And.intro q1 q3)
  have K1 := Lib.hid (And.intro q2 q3)
  have K2 := Lib.hid (And.intro q4 (And.intro q5 q6))
  have K3 := Lib.hid (And.intro q7 (And.intro q8 q9))
  clear hr hx hA2 hA q1 q2 q3 q4 q5 q6 q7 q8 q9 ht
  go_enter Try.func22, Try.ntmps22
  by_cases ha0 : a = 0
  · obtain rfl := ha0
    clear K1 K2 K3
    go_wp2_with fail
    refine (Take_any R t A l c n _ (HR0.out _)).mono ?_
    rintro e w8 ⟨rfl, hR8, f8⟩
    have hX8 := (HX0.out _).keep f8 hXR HAR.out
    have hq1 := f8.cell hO1.out (fun e => hBR e)
    clear HX0 HR0 hO1
    have HB8 := Lib.hid (RTake_any X t A2 _ c2 n false w8 hX8)
    try rw [bitL_length] at HB8
    rw [K0.out.1, K0.out.2] at HB8
    (obtain ⟨V, hV⟩ : ∃ V : Int, ((tkV l t n : Nat) : Int) = V := ⟨_, rfl⟩); rw [hV] at HB8 ⊢; generalize tkT l t n = T at *; generalize tkE n (8 * l.length - t) = E at *; clear K0 hV
    go_wp2_with fail
    refine HB8.out.mono ?_
    rintro e w9 ⟨rfl, hX9, f9⟩
    have hR9 := hR8.keep f9 (fun e => hXR e.symm) HAX.out
    have HF9 : Hid (Fr (fun k => k = R ∨ k = X) w w9) := ((Fr.of (bal (Below.refl _ _) _)).trans (f8.wide (fun k h => .inl h))).trans (f9.wide (fun k h => .inr h))
    clear HB8 hX8 hR8 f8 f9
    try clear hq1
    have HAt := Lib.hid (fun W (hW : Below w9.heap.size w9 W) => At_any R T A l.length c W (hR9.below hW).row)
    have HLf := Lib.hid (fun W (hW : Below w9.heap.size w9 W) => Left_any R T A l.length c W (hR9.below hW).row hR9.le (by omega))
    have HC0 : Hid (∀ W, Below w9.heap.size w9 W → W.cell? ⟨X, 0, none⟩ = some (.slice A2 (8 * l.length) c2)) := fun W hW => by have := (hX9.below hW).c0; rw [bitL_length] at this; exact this
    have HC1 : Hid (∀ W, Below w9.heap.size w9 W → W.cell? ⟨X, 1, none⟩ = some (.int .i64 (T : Int))) := fun W hW => (hX9.below hW).c1
    have HD : Hid (∀ W, Below w9.heap.size w9 W → DoesPost R X A A2 l c c2 w (.returned (.bool true)) W) := fun W hW => ⟨rfl, T, hR9.below hW, hX9.below hW, HF9.out.trans (Fr.of hW)⟩
    have hTl := hR9.le
    have e1 : IntKind.i64.wrap (8 * (l.length : Int) - (T : Int)) = 8 * (l.length : Int) - (T : Int) := by rw [IntKind.wrap_i64]; omega
    clear hR9 hX9 hTl
    go_wp2_with fail
    refine wp_region_specs [
      Spec.val (.int .i64 V),
      Spec.val (.int .i64 V),
      Spec.val (.bool true),
      Spec.val (.bool true),
      Spec.val (.int .i64 E),
      Spec.val (.int .i64 E),
      Spec.val (.bool true),
      Spec.val (.bool true),
      Spec.val (.bool true),
      Spec.val (.pointer (some ⟨R, 0, none⟩)),
      Spec.val (.int .i64 (T : Int)),
      Spec.val (.pointer (some ⟨X, 0, none⟩)),
      Spec.val (.pointer (some ⟨X, 0, none⟩)),
      Spec.val (.pointer (some ⟨X, 1, none⟩)),
      Spec.val (.int .i64 (T : Int)),
      Spec.val (.bool true),
      Spec.val (.bool true),
      Spec.val (.bool true),
      Spec.val (.pointer (some ⟨R, 0, none⟩)),
      Spec.val (.int .i64 (8 * (l.length : Int) - (T : Int))),
      Spec.val (.pointer (some ⟨X, 0, none⟩)),
      Spec.val (.pointer (some ⟨X, 0, none⟩)),
      Spec.val (.pointer (some ⟨X, 0, none⟩)),
      Spec.val (.slice A2 (8 * l.length) c2),
      Spec.val (.int .i64 (8 * l.length : Nat)),
      Spec.val (.pointer (some ⟨X, 0, none⟩)),
      Spec.val (.pointer (some ⟨X, 0, none⟩)),
      Spec.val (.pointer (some ⟨X, 1, none⟩)),
      Spec.val (.int .i64 (T : Int)),
      Spec.val (.int .i64 (8 * (l.length : Int) - (T : Int))),
      Spec.val (.bool true),
      Spec.val (.bool true),
      Spec.val (.bool true)] w9 (by kernel_rfl) (by repeat (first | exact Below.refl _ _ | assumption | refine below_drewN ?_ _ | refine Below.drew ?_ | refine Below.alloc ?_ (Nat.le_refl _) _ | refine bal ?_ _ | refine bnext ?_ (by assumption))) (n := 109) rfl (by decide +kernel) ⟨?_, ?_, ?_, ?_, ?_, ?_, ?_, ?_, ?_, ?_, ?_, ?_, ?_, ?_, ?_, ?_, ?_, ?_, ?_, ?_, ?_, ?_, ?_, ?_, ?_, ?_, ?_, ?_, ?_, ?_, ?_, ?_, ?_, trivial⟩ ?_
    · intro ac wd hJ hfr hdep
      have s7 : ac.tmps.getD 7 undef = .int .i64 V := (hfr 7 (by decide)).trans rfl
      have s7' := slot' s7
      clear hfr hdep
      refine if_wanted rfl (fun Q => op_any (fun K hK => ?_))
      go_simp
      exact hK _ _ rfl hJ (Below.refl _ _)
    · intro ac wd hJ hfr hdep
      have s8 : ac.tmps.getD 8 undef = .int .i64 V := (hfr 8 (by decide)).trans rfl
      have s8' := slot' s8
      clear hfr hdep
      refine if_wanted rfl (fun Q => op_any (fun K hK => ?_))
      go_simp
      exact hK _ _ rfl hJ (Below.refl _ _)
    · intro ac wd hJ hfr hdep
      have s77 : ac.tmps.getD 77 undef = .int .i64 V := hdep 0 _ 77 (by decide) rfl rfl
      have s78 : ac.tmps.getD 78 undef = .int .i64 V := hdep 1 _ 78 (by decide) rfl rfl
      have s77' := slot' s77
      have s78' := slot' s78
      clear hfr hdep
      refine if_wanted rfl (fun Q => op_any (fun K hK => ?_))
      go_simp
      exact hK _ _ rfl hJ (Below.refl _ _)
    · intro ac wd hJ hfr hdep
      have s79 : ac.tmps.getD 79 undef = .bool true := hdep 2 _ 79 (by decide) rfl rfl
      have s79' := slot' s79
      clear hfr hdep
      refine if_wanted rfl (fun Q => op_any (fun K hK => ?_))
      go_simp
      exact hK _ _ rfl hJ (Below.refl _ _)
    · intro ac wd hJ hfr hdep
      have sg : ac.tmps.getD 80 undef = .bool true := hdep 3 _ 80 (by decide) rfl rfl
      have s9 : ac.tmps.getD 9 undef = .int .i64 E := (hfr 9 (by decide)).trans rfl
      have s9' := slot' s9
      clear hfr hdep
      refine if_wanted (wanted_yes rfl rfl rfl sg) (fun Q => op_any (fun K hK => ?_))
      go_simp
      exact hK _ _ rfl hJ (Below.refl _ _)
    · intro ac wd hJ hfr hdep
      have sg : ac.tmps.getD 80 undef = .bool true := hdep 3 _ 80 (by decide) rfl rfl
      have s10 : ac.tmps.getD 10 undef = .int .i64 E := (hfr 10 (by decide)).trans rfl
      have s10' := slot' s10
      clear hfr hdep
      refine if_wanted (wanted_yes rfl rfl rfl sg) (fun Q => op_any (fun K hK => ?_))
      go_simp
      exact hK _ _ rfl hJ (Below.refl _ _)
    · intro ac wd hJ hfr hdep
      have sg : ac.tmps.getD 80 undef = .bool true := hdep 3 _ 80 (by decide) rfl rfl
      have s81 : ac.tmps.getD 81 undef = .int .i64 E := hdep 4 _ 81 (by decide) rfl rfl
      have s82 : ac.tmps.getD 82 undef = .int .i64 E := hdep 5 _ 82 (by decide) rfl rfl
      have s81' := slot' s81
      have s82' := slot' s82
      clear hfr hdep
      refine if_wanted (wanted_yes rfl rfl rfl sg) (fun Q => op_any (fun K hK => ?_))
      go_simp
      exact hK _ _ rfl hJ (Below.refl _ _)
    · intro ac wd hJ hfr hdep
      have s80 : ac.tmps.getD 80 undef = .bool true := hdep 3 _ 80 (by decide) rfl rfl
      have s83 : ac.tmps.getD 83 undef = .bool true := hdep 6 _ 83 (by decide) rfl rfl
      have s80' := slot' s80
      have s83' := slot' s83
      clear hfr hdep
      refine if_wanted rfl (fun Q => op_any (fun K hK => ?_))
      go_simp
      exact hK _ _ rfl hJ (Below.refl _ _)
    · intro ac wd hJ hfr hdep
      have s84 : ac.tmps.getD 84 undef = .bool true := hdep 7 _ 84 (by decide) rfl rfl
      have s84' := slot' s84
      clear hfr hdep
      refine if_wanted rfl (fun Q => op_any (fun K hK => ?_))
      go_simp
      exact hK _ _ rfl hJ (Below.refl _ _)
    · intro ac wd hJ hfr hdep
      have sg : ac.tmps.getD 85 undef = .bool true := hdep 8 _ 85 (by decide) rfl rfl
      have s0 : ac.tmps.getD 0 undef = .pointer (some ⟨R, 0, none⟩) := (hfr 0 (by decide)).trans rfl
      have s0' := slot' s0
      clear hfr hdep
      refine if_wanted (wanted_yes rfl rfl rfl sg) (fun Q => op_any (fun K hK => ?_))
      go_simp
      exact hK _ _ rfl hJ (Below.refl _ _)
    · intro ac wd hJ hfr hdep
      have sg : ac.tmps.getD 85 undef = .bool true := hdep 8 _ 85 (by decide) rfl rfl
      have s86 : ac.tmps.getD 86 undef = .pointer (some ⟨R, 0, none⟩) := hdep 9 _ 86 (by decide) rfl rfl
      have s86' := slot' s86
      clear hfr hdep
      refine if_wanted (wanted_yes rfl rfl rfl sg) (fun Q => op_any (fun K hK => ?_))
      go_simp
      refine (HAt.out _ hJ).mono ?_
      rintro e w1 ⟨rfl, hb1⟩
      exact hK _ _ rfl (bnext hJ hb1) hb1
    · intro ac wd hJ hfr hdep
      have sg : ac.tmps.getD 85 undef = .bool true := hdep 8 _ 85 (by decide) rfl rfl
      have s1 : ac.tmps.getD 1 undef = .pointer (some ⟨X, 0, none⟩) := (hfr 1 (by decide)).trans rfl
      have s1' := slot' s1
      clear hfr hdep
      refine if_wanted (wanted_yes rfl rfl rfl sg) (fun Q => op_any (fun K hK => ?_))
      go_simp
      exact hK _ _ rfl hJ (Below.refl _ _)
    · intro ac wd hJ hfr hdep
      have sg : ac.tmps.getD 85 undef = .bool true := hdep 8 _ 85 (by decide) rfl rfl
      have s88 : ac.tmps.getD 88 undef = .pointer (some ⟨X, 0, none⟩) := hdep 11 _ 88 (by decide) rfl rfl
      have s88' := slot' s88
      clear hfr hdep
      refine if_wanted (wanted_yes rfl rfl rfl sg) (fun Q => op_any (fun K hK => ?_))
      go_simp
      exact hK _ _ rfl hJ (Below.refl _ _)
    · intro ac wd hJ hfr hdep
      have sg : ac.tmps.getD 85 undef = .bool true := hdep 8 _ 85 (by decide) rfl rfl
      have s89 : ac.tmps.getD 89 undef = .pointer (some ⟨X, 0, none⟩) := hdep 12 _ 89 (by decide) rfl rfl
      have s89' := slot' s89
      clear hfr hdep
      refine if_wanted (wanted_yes rfl rfl rfl sg) (fun Q => op_any (fun K hK => ?_))
      go_simp
      exact hK _ _ rfl hJ (Below.refl _ _)
    · intro ac wd hJ hfr hdep
      have sg : ac.tmps.getD 85 undef = .bool true := hdep 8 _ 85 (by decide) rfl rfl
      have s90 : ac.tmps.getD 90 undef = .pointer (some ⟨X, 1, none⟩) := hdep 13 _ 90 (by decide) rfl rfl
      have s90' := slot' s90
      clear hfr hdep
      refine if_wanted (wanted_yes rfl rfl rfl sg) (fun Q => op_any (fun K hK => ?_))
      have hx := HC1.out wd hJ
      go_simp
      exact hK _ _ rfl hJ (Below.refl _ _)
    · intro ac wd hJ hfr hdep
      have sg : ac.tmps.getD 85 undef = .bool true := hdep 8 _ 85 (by decide) rfl rfl
      have s87 : ac.tmps.getD 87 undef = .int .i64 (T : Int) := hdep 10 _ 87 (by decide) rfl rfl
      have s91 : ac.tmps.getD 91 undef = .int .i64 (T : Int) := hdep 14 _ 91 (by decide) rfl rfl
      have s87' := slot' s87
      have s91' := slot' s91
      clear hfr hdep
      refine if_wanted (wanted_yes rfl rfl rfl sg) (fun Q => op_any (fun K hK => ?_))
      go_simp
      exact hK _ _ rfl hJ (Below.refl _ _)
    · intro ac wd hJ hfr hdep
      have s85 : ac.tmps.getD 85 undef = .bool true := hdep 8 _ 85 (by decide) rfl rfl
      have s92 : ac.tmps.getD 92 undef = .bool true := hdep 15 _ 92 (by decide) rfl rfl
      have s85' := slot' s85
      have s92' := slot' s92
      clear hfr hdep
      refine if_wanted rfl (fun Q => op_any (fun K hK => ?_))
      go_simp
      exact hK _ _ rfl hJ (Below.refl _ _)
    · intro ac wd hJ hfr hdep
      have s93 : ac.tmps.getD 93 undef = .bool true := hdep 16 _ 93 (by decide) rfl rfl
      have s93' := slot' s93
      clear hfr hdep
      refine if_wanted rfl (fun Q => op_any (fun K hK => ?_))
      go_simp
      exact hK _ _ rfl hJ (Below.refl _ _)
    · intro ac wd hJ hfr hdep
      have sg : ac.tmps.getD 94 undef = .bool true := hdep 17 _ 94 (by decide) rfl rfl
      have s0 : ac.tmps.getD 0 undef = .pointer (some ⟨R, 0, none⟩) := (hfr 0 (by decide)).trans rfl
      have s0' := slot' s0
      clear hfr hdep
      refine if_wanted (wanted_yes rfl rfl rfl sg) (fun Q => op_any (fun K hK => ?_))
      go_simp
      exact hK _ _ rfl hJ (Below.refl _ _)
    · intro ac wd hJ hfr hdep
      have sg : ac.tmps.getD 94 undef = .bool true := hdep 17 _ 94 (by decide) rfl rfl
      have s95 : ac.tmps.getD 95 undef = .pointer (some ⟨R, 0, none⟩) := hdep 18 _ 95 (by decide) rfl rfl
      have s95' := slot' s95
      clear hfr hdep
      refine if_wanted (wanted_yes rfl rfl rfl sg) (fun Q => op_any (fun K hK => ?_))
      go_simp
      refine (HLf.out _ hJ).mono ?_
      rintro e w1 ⟨rfl, hb1⟩
      exact hK _ _ rfl (bnext hJ hb1) hb1
    · intro ac wd hJ hfr hdep
      have sg : ac.tmps.getD 94 undef = .bool true := hdep 17 _ 94 (by decide) rfl rfl
      have s1 : ac.tmps.getD 1 undef = .pointer (some ⟨X, 0, none⟩) := (hfr 1 (by decide)).trans rfl
      have s1' := slot' s1
      clear hfr hdep
      refine if_wanted (wanted_yes rfl rfl rfl sg) (fun Q => op_any (fun K hK => ?_))
      go_simp
      exact hK _ _ rfl hJ (Below.refl _ _)
    · intro ac wd hJ hfr hdep
      have sg : ac.tmps.getD 94 undef = .bool true := hdep 17 _ 94 (by decide) rfl rfl
      have s97 : ac.tmps.getD 97 undef = .pointer (some ⟨X, 0, none⟩) := hdep 20 _ 97 (by decide) rfl rfl
      have s97' := slot' s97
      clear hfr hdep
      refine if_wanted (wanted_yes rfl rfl rfl sg) (fun Q => op_any (fun K hK => ?_))
      go_simp
      exact hK _ _ rfl hJ (Below.refl _ _)
    · intro ac wd hJ hfr hdep
      have sg : ac.tmps.getD 94 undef = .bool true := hdep 17 _ 94 (by decide) rfl rfl
      have s98 : ac.tmps.getD 98 undef = .pointer (some ⟨X, 0, none⟩) := hdep 21 _ 98 (by decide) rfl rfl
      have s98' := slot' s98
      clear hfr hdep
      refine if_wanted (wanted_yes rfl rfl rfl sg) (fun Q => op_any (fun K hK => ?_))
      go_simp
      exact hK _ _ rfl hJ (Below.refl _ _)
    · intro ac wd hJ hfr hdep
      have sg : ac.tmps.getD 94 undef = .bool true := hdep 17 _ 94 (by decide) rfl rfl
      have s99 : ac.tmps.getD 99 undef = .pointer (some ⟨X, 0, none⟩) := hdep 22 _ 99 (by decide) rfl rfl
      have s99' := slot' s99
      clear hfr hdep
      refine if_wanted (wanted_yes rfl rfl rfl sg) (fun Q => op_any (fun K hK => ?_))
      have hx := HC0.out wd hJ
      go_simp
      exact hK _ _ rfl hJ (Below.refl _ _)
    · intro ac wd hJ hfr hdep
      have sg : ac.tmps.getD 94 undef = .bool true := hdep 17 _ 94 (by decide) rfl rfl
      have s100 : ac.tmps.getD 100 undef = .slice A2 (8 * l.length) c2 := hdep 23 _ 100 (by decide) rfl rfl
      have s100' := slot' s100
      clear hfr hdep
      refine if_wanted (wanted_yes rfl rfl rfl sg) (fun Q => op_any (fun K hK => ?_))
      go_simp
      exact hK _ _ rfl hJ (Below.refl _ _)
    · intro ac wd hJ hfr hdep
      have sg : ac.tmps.getD 94 undef = .bool true := hdep 17 _ 94 (by decide) rfl rfl
      have s1 : ac.tmps.getD 1 undef = .pointer (some ⟨X, 0, none⟩) := (hfr 1 (by decide)).trans rfl
      have s1' := slot' s1
      clear hfr hdep
      refine if_wanted (wanted_yes rfl rfl rfl sg) (fun Q => op_any (fun K hK => ?_))
      go_simp
      exact hK _ _ rfl hJ (Below.refl _ _)
    · intro ac wd hJ hfr hdep
      have sg : ac.tmps.getD 94 undef = .bool true := hdep 17 _ 94 (by decide) rfl rfl
      have s102 : ac.tmps.getD 102 undef = .pointer (some ⟨X, 0, none⟩) := hdep 25 _ 102 (by decide) rfl rfl
      have s102' := slot' s102
      clear hfr hdep
      refine if_wanted (wanted_yes rfl rfl rfl sg) (fun Q => op_any (fun K hK => ?_))
      go_simp
      exact hK _ _ rfl hJ (Below.refl _ _)
    · intro ac wd hJ hfr hdep
      have sg : ac.tmps.getD 94 undef = .bool true := hdep 17 _ 94 (by decide) rfl rfl
      have s103 : ac.tmps.getD 103 undef = .pointer (some ⟨X, 0, none⟩) := hdep 26 _ 103 (by decide) rfl rfl
      have s103' := slot' s103
      clear hfr hdep
      refine if_wanted (wanted_yes rfl rfl rfl sg) (fun Q => op_any (fun K hK => ?_))
      go_simp
      exact hK _ _ rfl hJ (Below.refl _ _)
    · intro ac wd hJ hfr hdep
      have sg : ac.tmps.getD 94 undef = .bool true := hdep 17 _ 94 (by decide) rfl rfl
      have s104 : ac.tmps.getD 104 undef = .pointer (some ⟨X, 1, none⟩) := hdep 27 _ 104 (by decide) rfl rfl
      have s104' := slot' s104
      clear hfr hdep
      refine if_wanted (wanted_yes rfl rfl rfl sg) (fun Q => op_any (fun K hK => ?_))
      have hx := HC1.out wd hJ
      go_simp
      exact hK _ _ rfl hJ (Below.refl _ _)
    · intro ac wd hJ hfr hdep
      have sg : ac.tmps.getD 94 undef = .bool true := hdep 17 _ 94 (by decide) rfl rfl
      have s101 : ac.tmps.getD 101 undef = .int .i64 (8 * l.length : Nat) := hdep 24 _ 101 (by decide) rfl rfl
      have s105 : ac.tmps.getD 105 undef = .int .i64 (T : Int) := hdep 28 _ 105 (by decide) rfl rfl
      have s101' := slot' s101
      have s105' := slot' s105
      clear hfr hdep
      refine if_wanted (wanted_yes rfl rfl rfl sg) (fun Q => op_any (fun K hK => ?_))
      go_simp
      exact hK _ _ rfl hJ (Below.refl _ _)
    · intro ac wd hJ hfr hdep
      have sg : ac.tmps.getD 94 undef = .bool true := hdep 17 _ 94 (by decide) rfl rfl
      have s96 : ac.tmps.getD 96 undef = .int .i64 (8 * (l.length : Int) - (T : Int)) := hdep 19 _ 96 (by decide) rfl rfl
      have s106 : ac.tmps.getD 106 undef = .int .i64 (8 * (l.length : Int) - (T : Int)) := hdep 29 _ 106 (by decide) rfl rfl
      have s96' := slot' s96
      have s106' := slot' s106
      clear hfr hdep
      refine if_wanted (wanted_yes rfl rfl rfl sg) (fun Q => op_any (fun K hK => ?_))
      go_simp
      exact hK _ _ rfl hJ (Below.refl _ _)
    · intro ac wd hJ hfr hdep
      have s94 : ac.tmps.getD 94 undef = .bool true := hdep 17 _ 94 (by decide) rfl rfl
      have s107 : ac.tmps.getD 107 undef = .bool true := hdep 30 _ 107 (by decide) rfl rfl
      have s94' := slot' s94
      have s107' := slot' s107
      clear hfr hdep
      refine if_wanted rfl (fun Q => op_any (fun K hK => ?_))
      go_simp
      exact hK _ _ rfl hJ (Below.refl _ _)
    · intro ac wd hJ hfr hdep
      have s108 : ac.tmps.getD 108 undef = .bool true := hdep 31 _ 108 (by decide) rfl rfl
      have s108' := slot' s108
      clear hfr hdep
      refine if_wanted rfl (fun Q => op_any (fun K hK => ?_))
      go_simp
      exact hK _ _ rfl hJ (Below.refl _ _)
    intro f w' hJ hR
    have e0 : f 0 = .int .i64 V := hR 0 (by decide)
    have e1 : f 1 = .int .i64 V := hR 1 (by decide)
    have e2 : f 2 = .bool true := hR 2 (by decide)
    have e3 : f 3 = .bool true := hR 3 (by decide)
    have e4 : f 4 = .int .i64 E := hR 4 (by decide)
    have e5 : f 5 = .int .i64 E := hR 5 (by decide)
    have e6 : f 6 = .bool true := hR 6 (by decide)
    have e7 : f 7 = .bool true := hR 7 (by decide)
    have e8 : f 8 = .bool true := hR 8 (by decide)
    have e9 : f 9 = .pointer (some ⟨R, 0, none⟩) := hR 9 (by decide)
    have e10 : f 10 = .int .i64 (T : Int) := hR 10 (by decide)
    have e11 : f 11 = .pointer (some ⟨X, 0, none⟩) := hR 11 (by decide)
    have e12 : f 12 = .pointer (some ⟨X, 0, none⟩) := hR 12 (by decide)
    have e13 : f 13 = .pointer (some ⟨X, 1, none⟩) := hR 13 (by decide)
    have e14 : f 14 = .int .i64 (T : Int) := hR 14 (by decide)
    have e15 : f 15 = .bool true := hR 15 (by decide)
    have e16 : f 16 = .bool true := hR 16 (by decide)
    have e17 : f 17 = .bool true := hR 17 (by decide)
    have e18 : f 18 = .pointer (some ⟨R, 0, none⟩) := hR 18 (by decide)
    have e19 : f 19 = .int .i64 (8 * (l.length : Int) - (T : Int)) := hR 19 (by decide)
    have e20 : f 20 = .pointer (some ⟨X, 0, none⟩) := hR 20 (by decide)
    have e21 : f 21 = .pointer (some ⟨X, 0, none⟩) := hR 21 (by decide)
    have e22 : f 22 = .pointer (some ⟨X, 0, none⟩) := hR 22 (by decide)
    have e23 : f 23 = .slice A2 (8 * l.length) c2 := hR 23 (by decide)
    have e24 : f 24 = .int .i64 (8 * l.length : Nat) := hR 24 (by decide)
    have e25 : f 25 = .pointer (some ⟨X, 0, none⟩) := hR 25 (by decide)
    have e26 : f 26 = .pointer (some ⟨X, 0, none⟩) := hR 26 (by decide)
    have e27 : f 27 = .pointer (some ⟨X, 1, none⟩) := hR 27 (by decide)
    have e28 : f 28 = .int .i64 (T : Int) := hR 28 (by decide)
    have e29 : f 29 = .int .i64 (8 * (l.length : Int) - (T : Int)) := hR 29 (by decide)
    have e30 : f 30 = .bool true := hR 30 (by decide)
    have e31 : f 31 = .bool true := hR 31 (by decide)
    have e32 : f 32 = .bool true := hR 32 (by decide)
    clear hR
    simp only [finA, Act.put, List.setIfInBounds_toArray, List.set_cons_succ, List.set_cons_zero, Nat.reduceAdd, e0, e1, e2, e3, e4, e5, e6, e7, e8, e9, e10, e11, e12, e13, e14, e15, e16, e17, e18, e19, e20, e21, e22, e23, e24, e25, e26, e27, e28, e29, e30, e31, e32]
    clear e0 e1 e2 e3 e4 e5 e6 e7 e8 e9 e10 e11 e12 e13 e14 e15 e16 e17 e18 e19 e20 e21 e22 e23 e24 e25 e26 e27 e28 e29 e30 e31 e32
    have hend : DoesPost R X A A2 l c c2 w (.returned (.bool true)) w' := HD.out _ hJ
    go_wp2_with fail
    go_ret
    exact hend
  have hb0 : (a == 0) = false := by rw [beq_eq_false_iff_ne]; exact ha0
  by_cases ha1 : a = 1
  · obtain rfl := ha1
    clear K0 K2 K3
    go_wp2_with fail
    refine (Signed_any R t A l c n _ (HR0.out _)).mono ?_
    rintro e w8 ⟨rfl, hR8, f8⟩
    have hX8 := (HX0.out _).keep f8 hXR HAR.out
    have hq1 := f8.cell hO1.out (fun e => hBR e)
    clear HX0 HR0 hO1
    have HB8 := Lib.hid (RTake_any X t A2 _ c2 n true w8 hX8)
    try rw [bitL_length] at HB8
    rw [K1.out.1, K1.out.2] at HB8
    generalize sdV l t n = V at *; generalize tkT l t n = T at *; generalize tkE n (8 * l.length - t) = E at *; clear K1
    go_wp2_with fail
    refine HB8.out.mono ?_
    rintro e w9 ⟨rfl, hX9, f9⟩
    have hR9 := hR8.keep f9 (fun e => hXR e.symm) HAX.out
    have HF9 : Hid (Fr (fun k => k = R ∨ k = X) w w9) := ((Fr.of (bal (Below.refl _ _) _)).trans (f8.wide (fun k h => .inl h))).trans (f9.wide (fun k h => .inr h))
    clear HB8 hX8 hR8 f8 f9
    try clear hq1
    have HAt := Lib.hid (fun W (hW : Below w9.heap.size w9 W) => At_any R T A l.length c W (hR9.below hW).row)
    have HLf := Lib.hid (fun W (hW : Below w9.heap.size w9 W) => Left_any R T A l.length c W (hR9.below hW).row hR9.le (by omega))
    have HC0 : Hid (∀ W, Below w9.heap.size w9 W → W.cell? ⟨X, 0, none⟩ = some (.slice A2 (8 * l.length) c2)) := fun W hW => by have := (hX9.below hW).c0; rw [bitL_length] at this; exact this
    have HC1 : Hid (∀ W, Below w9.heap.size w9 W → W.cell? ⟨X, 1, none⟩ = some (.int .i64 (T : Int))) := fun W hW => (hX9.below hW).c1
    have HD : Hid (∀ W, Below w9.heap.size w9 W → DoesPost R X A A2 l c c2 w (.returned (.bool true)) W) := fun W hW => ⟨rfl, T, hR9.below hW, hX9.below hW, HF9.out.trans (Fr.of hW)⟩
    have hTl := hR9.le
    have e1 : IntKind.i64.wrap (8 * (l.length : Int) - (T : Int)) = 8 * (l.length : Int) - (T : Int) := by rw [IntKind.wrap_i64]; omega
    clear hR9 hX9 hTl
    go_wp2_with fail
    refine wp_region_specs [
      Spec.val (.int .i64 V),
      Spec.val (.int .i64 V),
      Spec.val (.bool true),
      Spec.val (.bool true),
      Spec.val (.int .i64 E),
      Spec.val (.int .i64 E),
      Spec.val (.bool true),
      Spec.val (.bool true),
      Spec.val (.bool true),
      Spec.val (.pointer (some ⟨R, 0, none⟩)),
      Spec.val (.int .i64 (T : Int)),
      Spec.val (.pointer (some ⟨X, 0, none⟩)),
      Spec.val (.pointer (some ⟨X, 0, none⟩)),
      Spec.val (.pointer (some ⟨X, 1, none⟩)),
      Spec.val (.int .i64 (T : Int)),
      Spec.val (.bool true),
      Spec.val (.bool true),
      Spec.val (.bool true),
      Spec.val (.pointer (some ⟨R, 0, none⟩)),
      Spec.val (.int .i64 (8 * (l.length : Int) - (T : Int))),
      Spec.val (.pointer (some ⟨X, 0, none⟩)),
      Spec.val (.pointer (some ⟨X, 0, none⟩)),
      Spec.val (.pointer (some ⟨X, 0, none⟩)),
      Spec.val (.slice A2 (8 * l.length) c2),
      Spec.val (.int .i64 (8 * l.length : Nat)),
      Spec.val (.pointer (some ⟨X, 0, none⟩)),
      Spec.val (.pointer (some ⟨X, 0, none⟩)),
      Spec.val (.pointer (some ⟨X, 1, none⟩)),
      Spec.val (.int .i64 (T : Int)),
      Spec.val (.int .i64 (8 * (l.length : Int) - (T : Int))),
      Spec.val (.bool true),
      Spec.val (.bool true),
      Spec.val (.bool true)] w9 (by kernel_rfl) (by repeat (first | exact Below.refl _ _ | assumption | refine below_drewN ?_ _ | refine Below.drew ?_ | refine Below.alloc ?_ (Nat.le_refl _) _ | refine bal ?_ _ | refine bnext ?_ (by assumption))) (n := 109) rfl (by decide +kernel) ⟨?_, ?_, ?_, ?_, ?_, ?_, ?_, ?_, ?_, ?_, ?_, ?_, ?_, ?_, ?_, ?_, ?_, ?_, ?_, ?_, ?_, ?_, ?_, ?_, ?_, ?_, ?_, ?_, ?_, ?_, ?_, ?_, ?_, trivial⟩ ?_
    · intro ac wd hJ hfr hdep
      have s7 : ac.tmps.getD 7 undef = .int .i64 V := (hfr 7 (by decide)).trans rfl
      have s7' := slot' s7
      clear hfr hdep
      refine if_wanted rfl (fun Q => op_any (fun K hK => ?_))
      go_simp
      exact hK _ _ rfl hJ (Below.refl _ _)
    · intro ac wd hJ hfr hdep
      have s8 : ac.tmps.getD 8 undef = .int .i64 V := (hfr 8 (by decide)).trans rfl
      have s8' := slot' s8
      clear hfr hdep
      refine if_wanted rfl (fun Q => op_any (fun K hK => ?_))
      go_simp
      exact hK _ _ rfl hJ (Below.refl _ _)
    · intro ac wd hJ hfr hdep
      have s77 : ac.tmps.getD 77 undef = .int .i64 V := hdep 0 _ 77 (by decide) rfl rfl
      have s78 : ac.tmps.getD 78 undef = .int .i64 V := hdep 1 _ 78 (by decide) rfl rfl
      have s77' := slot' s77
      have s78' := slot' s78
      clear hfr hdep
      refine if_wanted rfl (fun Q => op_any (fun K hK => ?_))
      go_simp
      exact hK _ _ rfl hJ (Below.refl _ _)
    · intro ac wd hJ hfr hdep
      have s79 : ac.tmps.getD 79 undef = .bool true := hdep 2 _ 79 (by decide) rfl rfl
      have s79' := slot' s79
      clear hfr hdep
      refine if_wanted rfl (fun Q => op_any (fun K hK => ?_))
      go_simp
      exact hK _ _ rfl hJ (Below.refl _ _)
    · intro ac wd hJ hfr hdep
      have sg : ac.tmps.getD 80 undef = .bool true := hdep 3 _ 80 (by decide) rfl rfl
      have s9 : ac.tmps.getD 9 undef = .int .i64 E := (hfr 9 (by decide)).trans rfl
      have s9' := slot' s9
      clear hfr hdep
      refine if_wanted (wanted_yes rfl rfl rfl sg) (fun Q => op_any (fun K hK => ?_))
      go_simp
      exact hK _ _ rfl hJ (Below.refl _ _)
    · intro ac wd hJ hfr hdep
      have sg : ac.tmps.getD 80 undef = .bool true := hdep 3 _ 80 (by decide) rfl rfl
      have s10 : ac.tmps.getD 10 undef = .int .i64 E := (hfr 10 (by decide)).trans rfl
      have s10' := slot' s10
      clear hfr hdep
      refine if_wanted (wanted_yes rfl rfl rfl sg) (fun Q => op_any (fun K hK => ?_))
      go_simp
      exact hK _ _ rfl hJ (Below.refl _ _)
    · intro ac wd hJ hfr hdep
      have sg : ac.tmps.getD 80 undef = .bool true := hdep 3 _ 80 (by decide) rfl rfl
      have s81 : ac.tmps.getD 81 undef = .int .i64 E := hdep 4 _ 81 (by decide) rfl rfl
      have s82 : ac.tmps.getD 82 undef = .int .i64 E := hdep 5 _ 82 (by decide) rfl rfl
      have s81' := slot' s81
      have s82' := slot' s82
      clear hfr hdep
      refine if_wanted (wanted_yes rfl rfl rfl sg) (fun Q => op_any (fun K hK => ?_))
      go_simp
      exact hK _ _ rfl hJ (Below.refl _ _)
    · intro ac wd hJ hfr hdep
      have s80 : ac.tmps.getD 80 undef = .bool true := hdep 3 _ 80 (by decide) rfl rfl
      have s83 : ac.tmps.getD 83 undef = .bool true := hdep 6 _ 83 (by decide) rfl rfl
      have s80' := slot' s80
      have s83' := slot' s83
      clear hfr hdep
      refine if_wanted rfl (fun Q => op_any (fun K hK => ?_))
      go_simp
      exact hK _ _ rfl hJ (Below.refl _ _)
    · intro ac wd hJ hfr hdep
      have s84 : ac.tmps.getD 84 undef = .bool true := hdep 7 _ 84 (by decide) rfl rfl
      have s84' := slot' s84
      clear hfr hdep
      refine if_wanted rfl (fun Q => op_any (fun K hK => ?_))
      go_simp
      exact hK _ _ rfl hJ (Below.refl _ _)
    · intro ac wd hJ hfr hdep
      have sg : ac.tmps.getD 85 undef = .bool true := hdep 8 _ 85 (by decide) rfl rfl
      have s0 : ac.tmps.getD 0 undef = .pointer (some ⟨R, 0, none⟩) := (hfr 0 (by decide)).trans rfl
      have s0' := slot' s0
      clear hfr hdep
      refine if_wanted (wanted_yes rfl rfl rfl sg) (fun Q => op_any (fun K hK => ?_))
      go_simp
      exact hK _ _ rfl hJ (Below.refl _ _)
    · intro ac wd hJ hfr hdep
      have sg : ac.tmps.getD 85 undef = .bool true := hdep 8 _ 85 (by decide) rfl rfl
      have s86 : ac.tmps.getD 86 undef = .pointer (some ⟨R, 0, none⟩) := hdep 9 _ 86 (by decide) rfl rfl
      have s86' := slot' s86
      clear hfr hdep
      refine if_wanted (wanted_yes rfl rfl rfl sg) (fun Q => op_any (fun K hK => ?_))
      go_simp
      refine (HAt.out _ hJ).mono ?_
      rintro e w1 ⟨rfl, hb1⟩
      exact hK _ _ rfl (bnext hJ hb1) hb1
    · intro ac wd hJ hfr hdep
      have sg : ac.tmps.getD 85 undef = .bool true := hdep 8 _ 85 (by decide) rfl rfl
      have s1 : ac.tmps.getD 1 undef = .pointer (some ⟨X, 0, none⟩) := (hfr 1 (by decide)).trans rfl
      have s1' := slot' s1
      clear hfr hdep
      refine if_wanted (wanted_yes rfl rfl rfl sg) (fun Q => op_any (fun K hK => ?_))
      go_simp
      exact hK _ _ rfl hJ (Below.refl _ _)
    · intro ac wd hJ hfr hdep
      have sg : ac.tmps.getD 85 undef = .bool true := hdep 8 _ 85 (by decide) rfl rfl
      have s88 : ac.tmps.getD 88 undef = .pointer (some ⟨X, 0, none⟩) := hdep 11 _ 88 (by decide) rfl rfl
      have s88' := slot' s88
      clear hfr hdep
      refine if_wanted (wanted_yes rfl rfl rfl sg) (fun Q => op_any (fun K hK => ?_))
      go_simp
      exact hK _ _ rfl hJ (Below.refl _ _)
    · intro ac wd hJ hfr hdep
      have sg : ac.tmps.getD 85 undef = .bool true := hdep 8 _ 85 (by decide) rfl rfl
      have s89 : ac.tmps.getD 89 undef = .pointer (some ⟨X, 0, none⟩) := hdep 12 _ 89 (by decide) rfl rfl
      have s89' := slot' s89
      clear hfr hdep
      refine if_wanted (wanted_yes rfl rfl rfl sg) (fun Q => op_any (fun K hK => ?_))
      go_simp
      exact hK _ _ rfl hJ (Below.refl _ _)
    · intro ac wd hJ hfr hdep
      have sg : ac.tmps.getD 85 undef = .bool true := hdep 8 _ 85 (by decide) rfl rfl
      have s90 : ac.tmps.getD 90 undef = .pointer (some ⟨X, 1, none⟩) := hdep 13 _ 90 (by decide) rfl rfl
      have s90' := slot' s90
      clear hfr hdep
      refine if_wanted (wanted_yes rfl rfl rfl sg) (fun Q => op_any (fun K hK => ?_))
      have hx := HC1.out wd hJ
      go_simp
      exact hK _ _ rfl hJ (Below.refl _ _)
    · intro ac wd hJ hfr hdep
      have sg : ac.tmps.getD 85 undef = .bool true := hdep 8 _ 85 (by decide) rfl rfl
      have s87 : ac.tmps.getD 87 undef = .int .i64 (T : Int) := hdep 10 _ 87 (by decide) rfl rfl
      have s91 : ac.tmps.getD 91 undef = .int .i64 (T : Int) := hdep 14 _ 91 (by decide) rfl rfl
      have s87' := slot' s87
      have s91' := slot' s91
      clear hfr hdep
      refine if_wanted (wanted_yes rfl rfl rfl sg) (fun Q => op_any (fun K hK => ?_))
      go_simp
      exact hK _ _ rfl hJ (Below.refl _ _)
    · intro ac wd hJ hfr hdep
      have s85 : ac.tmps.getD 85 undef = .bool true := hdep 8 _ 85 (by decide) rfl rfl
      have s92 : ac.tmps.getD 92 undef = .bool true := hdep 15 _ 92 (by decide) rfl rfl
      have s85' := slot' s85
      have s92' := slot' s92
      clear hfr hdep
      refine if_wanted rfl (fun Q => op_any (fun K hK => ?_))
      go_simp
      exact hK _ _ rfl hJ (Below.refl _ _)
    · intro ac wd hJ hfr hdep
      have s93 : ac.tmps.getD 93 undef = .bool true := hdep 16 _ 93 (by decide) rfl rfl
      have s93' := slot' s93
      clear hfr hdep
      refine if_wanted rfl (fun Q => op_any (fun K hK => ?_))
      go_simp
      exact hK _ _ rfl hJ (Below.refl _ _)
    · intro ac wd hJ hfr hdep
      have sg : ac.tmps.getD 94 undef = .bool true := hdep 17 _ 94 (by decide) rfl rfl
      have s0 : ac.tmps.getD 0 undef = .pointer (some ⟨R, 0, none⟩) := (hfr 0 (by decide)).trans rfl
      have s0' := slot' s0
      clear hfr hdep
      refine if_wanted (wanted_yes rfl rfl rfl sg) (fun Q => op_any (fun K hK => ?_))
      go_simp
      exact hK _ _ rfl hJ (Below.refl _ _)
    · intro ac wd hJ hfr hdep
      have sg : ac.tmps.getD 94 undef = .bool true := hdep 17 _ 94 (by decide) rfl rfl
      have s95 : ac.tmps.getD 95 undef = .pointer (some ⟨R, 0, none⟩) := hdep 18 _ 95 (by decide) rfl rfl
      have s95' := slot' s95
      clear hfr hdep
      refine if_wanted (wanted_yes rfl rfl rfl sg) (fun Q => op_any (fun K hK => ?_))
      go_simp
      refine (HLf.out _ hJ).mono ?_
      rintro e w1 ⟨rfl, hb1⟩
      exact hK _ _ rfl (bnext hJ hb1) hb1
    · intro ac wd hJ hfr hdep
      have sg : ac.tmps.getD 94 undef = .bool true := hdep 17 _ 94 (by decide) rfl rfl
      have s1 : ac.tmps.getD 1 undef = .pointer (some ⟨X, 0, none⟩) := (hfr 1 (by decide)).trans rfl
      have s1' := slot' s1
      clear hfr hdep
      refine if_wanted (wanted_yes rfl rfl rfl sg) (fun Q => op_any (fun K hK => ?_))
      go_simp
      exact hK _ _ rfl hJ (Below.refl _ _)
    · intro ac wd hJ hfr hdep
      have sg : ac.tmps.getD 94 undef = .bool true := hdep 17 _ 94 (by decide) rfl rfl
      have s97 : ac.tmps.getD 97 undef = .pointer (some ⟨X, 0, none⟩) := hdep 20 _ 97 (by decide) rfl rfl
      have s97' := slot' s97
      clear hfr hdep
      refine if_wanted (wanted_yes rfl rfl rfl sg) (fun Q => op_any (fun K hK => ?_))
      go_simp
      exact hK _ _ rfl hJ (Below.refl _ _)
    · intro ac wd hJ hfr hdep
      have sg : ac.tmps.getD 94 undef = .bool true := hdep 17 _ 94 (by decide) rfl rfl
      have s98 : ac.tmps.getD 98 undef = .pointer (some ⟨X, 0, none⟩) := hdep 21 _ 98 (by decide) rfl rfl
      have s98' := slot' s98
      clear hfr hdep
      refine if_wanted (wanted_yes rfl rfl rfl sg) (fun Q => op_any (fun K hK => ?_))
      go_simp
      exact hK _ _ rfl hJ (Below.refl _ _)
    · intro ac wd hJ hfr hdep
      have sg : ac.tmps.getD 94 undef = .bool true := hdep 17 _ 94 (by decide) rfl rfl
      have s99 : ac.tmps.getD 99 undef = .pointer (some ⟨X, 0, none⟩) := hdep 22 _ 99 (by decide) rfl rfl
      have s99' := slot' s99
      clear hfr hdep
      refine if_wanted (wanted_yes rfl rfl rfl sg) (fun Q => op_any (fun K hK => ?_))
      have hx := HC0.out wd hJ
      go_simp
      exact hK _ _ rfl hJ (Below.refl _ _)
    · intro ac wd hJ hfr hdep
      have sg : ac.tmps.getD 94 undef = .bool true := hdep 17 _ 94 (by decide) rfl rfl
      have s100 : ac.tmps.getD 100 undef = .slice A2 (8 * l.length) c2 := hdep 23 _ 100 (by decide) rfl rfl
      have s100' := slot' s100
      clear hfr hdep
      refine if_wanted (wanted_yes rfl rfl rfl sg) (fun Q => op_any (fun K hK => ?_))
      go_simp
      exact hK _ _ rfl hJ (Below.refl _ _)
    · intro ac wd hJ hfr hdep
      have sg : ac.tmps.getD 94 undef = .bool true := hdep 17 _ 94 (by decide) rfl rfl
      have s1 : ac.tmps.getD 1 undef = .pointer (some ⟨X, 0, none⟩) := (hfr 1 (by decide)).trans rfl
      have s1' := slot' s1
      clear hfr hdep
      refine if_wanted (wanted_yes rfl rfl rfl sg) (fun Q => op_any (fun K hK => ?_))
      go_simp
      exact hK _ _ rfl hJ (Below.refl _ _)
    · intro ac wd hJ hfr hdep
      have sg : ac.tmps.getD 94 undef = .bool true := hdep 17 _ 94 (by decide) rfl rfl
      have s102 : ac.tmps.getD 102 undef = .pointer (some ⟨X, 0, none⟩) := hdep 25 _ 102 (by decide) rfl rfl
      have s102' := slot' s102
      clear hfr hdep
      refine if_wanted (wanted_yes rfl rfl rfl sg) (fun Q => op_any (fun K hK => ?_))
      go_simp
      exact hK _ _ rfl hJ (Below.refl _ _)
    · intro ac wd hJ hfr hdep
      have sg : ac.tmps.getD 94 undef = .bool true := hdep 17 _ 94 (by decide) rfl rfl
      have s103 : ac.tmps.getD 103 undef = .pointer (some ⟨X, 0, none⟩) := hdep 26 _ 103 (by decide) rfl rfl
      have s103' := slot' s103
      clear hfr hdep
      refine if_wanted (wanted_yes rfl rfl rfl sg) (fun Q => op_any (fun K hK => ?_))
      go_simp
      exact hK _ _ rfl hJ (Below.refl _ _)
    · intro ac wd hJ hfr hdep
      have sg : ac.tmps.getD 94 undef = .bool true := hdep 17 _ 94 (by decide) rfl rfl
      have s104 : ac.tmps.getD 104 undef = .pointer (some ⟨X, 1, none⟩) := hdep 27 _ 104 (by decide) rfl rfl
      have s104' := slot' s104
      clear hfr hdep
      refine if_wanted (wanted_yes rfl rfl rfl sg) (fun Q => op_any (fun K hK => ?_))
      have hx := HC1.out wd hJ
      go_simp
      exact hK _ _ rfl hJ (Below.refl _ _)
    · intro ac wd hJ hfr hdep
      have sg : ac.tmps.getD 94 undef = .bool true := hdep 17 _ 94 (by decide) rfl rfl
      have s101 : ac.tmps.getD 101 undef = .int .i64 (8 * l.length : Nat) := hdep 24 _ 101 (by decide) rfl rfl
      have s105 : ac.tmps.getD 105 undef = .int .i64 (T : Int) := hdep 28 _ 105 (by decide) rfl rfl
      have s101' := slot' s101
      have s105' := slot' s105
      clear hfr hdep
      refine if_wanted (wanted_yes rfl rfl rfl sg) (fun Q => op_any (fun K hK => ?_))
      go_simp
      exact hK _ _ rfl hJ (Below.refl _ _)
    · intro ac wd hJ hfr hdep
      have sg : ac.tmps.getD 94 undef = .bool true := hdep 17 _ 94 (by decide) rfl rfl
      have s96 : ac.tmps.getD 96 undef = .int .i64 (8 * (l.length : Int) - (T : Int)) := hdep 19 _ 96 (by decide) rfl rfl
      have s106 : ac.tmps.getD 106 undef = .int .i64 (8 * (l.length : Int) - (T : Int)) := hdep 29 _ 106 (by decide) rfl rfl
      have s96' := slot' s96
      have s106' := slot' s106
      clear hfr hdep
      refine if_wanted (wanted_yes rfl rfl rfl sg) (fun Q => op_any (fun K hK => ?_))
      go_simp
      exact hK _ _ rfl hJ (Below.refl _ _)
    · intro ac wd hJ hfr hdep
      have s94 : ac.tmps.getD 94 undef = .bool true := hdep 17 _ 94 (by decide) rfl rfl
      have s107 : ac.tmps.getD 107 undef = .bool true := hdep 30 _ 107 (by decide) rfl rfl
      have s94' := slot' s94
      have s107' := slot' s107
      clear hfr hdep
      refine if_wanted rfl (fun Q => op_any (fun K hK => ?_))
      go_simp
      exact hK _ _ rfl hJ (Below.refl _ _)
    · intro ac wd hJ hfr hdep
      have s108 : ac.tmps.getD 108 undef = .bool true := hdep 31 _ 108 (by decide) rfl rfl
      have s108' := slot' s108
      clear hfr hdep
      refine if_wanted rfl (fun Q => op_any (fun K hK => ?_))
      go_simp
      exact hK _ _ rfl hJ (Below.refl _ _)
    intro f w' hJ hR
    have e0 : f 0 = .int .i64 V := hR 0 (by decide)
    have e1 : f 1 = .int .i64 V := hR 1 (by decide)
    have e2 : f 2 = .bool true := hR 2 (by decide)
    have e3 : f 3 = .bool true := hR 3 (by decide)
    have e4 : f 4 = .int .i64 E := hR 4 (by decide)
    have e5 : f 5 = .int .i64 E := hR 5 (by decide)
    have e6 : f 6 = .bool true := hR 6 (by decide)
    have e7 : f 7 = .bool true := hR 7 (by decide)
    have e8 : f 8 = .bool true := hR 8 (by decide)
    have e9 : f 9 = .pointer (some ⟨R, 0, none⟩) := hR 9 (by decide)
    have e10 : f 10 = .int .i64 (T : Int) := hR 10 (by decide)
    have e11 : f 11 = .pointer (some ⟨X, 0, none⟩) := hR 11 (by decide)
    have e12 : f 12 = .pointer (some ⟨X, 0, none⟩) := hR 12 (by decide)
    have e13 : f 13 = .pointer (some ⟨X, 1, none⟩) := hR 13 (by decide)
    have e14 : f 14 = .int .i64 (T : Int) := hR 14 (by decide)
    have e15 : f 15 = .bool true := hR 15 (by decide)
    have e16 : f 16 = .bool true := hR 16 (by decide)
    have e17 : f 17 = .bool true := hR 17 (by decide)
    have e18 : f 18 = .pointer (some ⟨R, 0, none⟩) := hR 18 (by decide)
    have e19 : f 19 = .int .i64 (8 * (l.length : Int) - (T : Int)) := hR 19 (by decide)
    have e20 : f 20 = .pointer (some ⟨X, 0, none⟩) := hR 20 (by decide)
    have e21 : f 21 = .pointer (some ⟨X, 0, none⟩) := hR 21 (by decide)
    have e22 : f 22 = .pointer (some ⟨X, 0, none⟩) := hR 22 (by decide)
    have e23 : f 23 = .slice A2 (8 * l.length) c2 := hR 23 (by decide)
    have e24 : f 24 = .int .i64 (8 * l.length : Nat) := hR 24 (by decide)
    have e25 : f 25 = .pointer (some ⟨X, 0, none⟩) := hR 25 (by decide)
    have e26 : f 26 = .pointer (some ⟨X, 0, none⟩) := hR 26 (by decide)
    have e27 : f 27 = .pointer (some ⟨X, 1, none⟩) := hR 27 (by decide)
    have e28 : f 28 = .int .i64 (T : Int) := hR 28 (by decide)
    have e29 : f 29 = .int .i64 (8 * (l.length : Int) - (T : Int)) := hR 29 (by decide)
    have e30 : f 30 = .bool true := hR 30 (by decide)
    have e31 : f 31 = .bool true := hR 31 (by decide)
    have e32 : f 32 = .bool true := hR 32 (by decide)
    clear hR
    simp only [finA, Act.put, List.setIfInBounds_toArray, List.set_cons_succ, List.set_cons_zero, Nat.reduceAdd, e0, e1, e2, e3, e4, e5, e6, e7, e8, e9, e10, e11, e12, e13, e14, e15, e16, e17, e18, e19, e20, e21, e22, e23, e24, e25, e26, e27, e28, e29, e30, e31, e32]
    clear e0 e1 e2 e3 e4 e5 e6 e7 e8 e9 e10 e11 e12 e13 e14 e15 e16 e17 e18 e19 e20 e21 e22 e23 e24 e25 e26 e27 e28 e29 e30 e31 e32
    have hend : DoesPost R X A A2 l c c2 w (.returned (.bool true)) w' := HD.out _ hJ
    go_wp2_with fail
    go_ret
    exact hend
  have hb1 : (a == 1) = false := by rw [beq_eq_false_iff_ne]; exact ha1
  by_cases ha2 : a = 2
  · obtain rfl := ha2
    clear K0 K1 K3
    go_wp2_with fail
    refine (Unary_any R t A l c _ (HR0.out _)).mono ?_
    rintro e w8 ⟨rfl, hR8, f8⟩
    have hX8 := (HX0.out _).keep f8 hXR HAR.out
    have hq1 := f8.cell hO1.out (fun e => hBR e)
    clear HX0 HR0 hO1
    have HB8 := Lib.hid (RUnary_any X t A2 _ c2 w8 hX8)
    try rw [bitL_length] at HB8
    rw [K2.out.1, K2.out.2.1, K2.out.2.2] at HB8
    (obtain ⟨V, hV⟩ : ∃ V : Int, ((unV l t : Nat) : Int) = V := ⟨_, rfl⟩); rw [hV] at HB8 ⊢; generalize unT l t = T at *; generalize unE l t = E at *; clear K2 hV
    go_wp2_with fail
    refine HB8.out.mono ?_
    rintro e w9 ⟨rfl, hX9, f9⟩
    have hR9 := hR8.keep f9 (fun e => hXR e.symm) HAX.out
    have HF9 : Hid (Fr (fun k => k = R ∨ k = X) w w9) := ((Fr.of (bal (Below.refl _ _) _)).trans (f8.wide (fun k h => .inl h))).trans (f9.wide (fun k h => .inr h))
    clear HB8 hX8 hR8 f8 f9
    try clear hq1
    have HAt := Lib.hid (fun W (hW : Below w9.heap.size w9 W) => At_any R T A l.length c W (hR9.below hW).row)
    have HLf := Lib.hid (fun W (hW : Below w9.heap.size w9 W) => Left_any R T A l.length c W (hR9.below hW).row hR9.le (by omega))
    have HC0 : Hid (∀ W, Below w9.heap.size w9 W → W.cell? ⟨X, 0, none⟩ = some (.slice A2 (8 * l.length) c2)) := fun W hW => by have := (hX9.below hW).c0; rw [bitL_length] at this; exact this
    have HC1 : Hid (∀ W, Below w9.heap.size w9 W → W.cell? ⟨X, 1, none⟩ = some (.int .i64 (T : Int))) := fun W hW => (hX9.below hW).c1
    have HD : Hid (∀ W, Below w9.heap.size w9 W → DoesPost R X A A2 l c c2 w (.returned (.bool true)) W) := fun W hW => ⟨rfl, T, hR9.below hW, hX9.below hW, HF9.out.trans (Fr.of hW)⟩
    have hTl := hR9.le
    have e1 : IntKind.i64.wrap (8 * (l.length : Int) - (T : Int)) = 8 * (l.length : Int) - (T : Int) := by rw [IntKind.wrap_i64]; omega
    clear hR9 hX9 hTl
    go_wp2_with fail
    refine wp_region_specs [
      Spec.val (.int .i64 V),
      Spec.val (.int .i64 V),
      Spec.val (.bool true),
      Spec.val (.bool true),
      Spec.val (.int .i64 E),
      Spec.val (.int .i64 E),
      Spec.val (.bool true),
      Spec.val (.bool true),
      Spec.val (.bool true),
      Spec.val (.pointer (some ⟨R, 0, none⟩)),
      Spec.val (.int .i64 (T : Int)),
      Spec.val (.pointer (some ⟨X, 0, none⟩)),
      Spec.val (.pointer (some ⟨X, 0, none⟩)),
      Spec.val (.pointer (some ⟨X, 1, none⟩)),
      Spec.val (.int .i64 (T : Int)),
      Spec.val (.bool true),
      Spec.val (.bool true),
      Spec.val (.bool true),
      Spec.val (.pointer (some ⟨R, 0, none⟩)),
      Spec.val (.int .i64 (8 * (l.length : Int) - (T : Int))),
      Spec.val (.pointer (some ⟨X, 0, none⟩)),
      Spec.val (.pointer (some ⟨X, 0, none⟩)),
      Spec.val (.pointer (some ⟨X, 0, none⟩)),
      Spec.val (.slice A2 (8 * l.length) c2),
      Spec.val (.int .i64 (8 * l.length : Nat)),
      Spec.val (.pointer (some ⟨X, 0, none⟩)),
      Spec.val (.pointer (some ⟨X, 0, none⟩)),
      Spec.val (.pointer (some ⟨X, 1, none⟩)),
      Spec.val (.int .i64 (T : Int)),
      Spec.val (.int .i64 (8 * (l.length : Int) - (T : Int))),
      Spec.val (.bool true),
      Spec.val (.bool true),
      Spec.val (.bool true)] w9 (by kernel_rfl) (by repeat (first | exact Below.refl _ _ | assumption | refine below_drewN ?_ _ | refine Below.drew ?_ | refine Below.alloc ?_ (Nat.le_refl _) _ | refine bal ?_ _ | refine bnext ?_ (by assumption))) (n := 109) rfl (by decide +kernel) ⟨?_, ?_, ?_, ?_, ?_, ?_, ?_, ?_, ?_, ?_, ?_, ?_, ?_, ?_, ?_, ?_, ?_, ?_, ?_, ?_, ?_, ?_, ?_, ?_, ?_, ?_, ?_, ?_, ?_, ?_, ?_, ?_, ?_, trivial⟩ ?_
    · intro ac wd hJ hfr hdep
      have s7 : ac.tmps.getD 7 undef = .int .i64 V := (hfr 7 (by decide)).trans rfl
      have s7' := slot' s7
      clear hfr hdep
      refine if_wanted rfl (fun Q => op_any (fun K hK => ?_))
      go_simp
      exact hK _ _ rfl hJ (Below.refl _ _)
    · intro ac wd hJ hfr hdep
      have s8 : ac.tmps.getD 8 undef = .int .i64 V := (hfr 8 (by decide)).trans rfl
      have s8' := slot' s8
      clear hfr hdep
      refine if_wanted rfl (fun Q => op_any (fun K hK => ?_))
      go_simp
      exact hK _ _ rfl hJ (Below.refl _ _)
    · intro ac wd hJ hfr hdep
      have s77 : ac.tmps.getD 77 undef = .int .i64 V := hdep 0 _ 77 (by decide) rfl rfl
      have s78 : ac.tmps.getD 78 undef = .int .i64 V := hdep 1 _ 78 (by decide) rfl rfl
      have s77' := slot' s77
      have s78' := slot' s78
      clear hfr hdep
      refine if_wanted rfl (fun Q => op_any (fun K hK => ?_))
      go_simp
      exact hK _ _ rfl hJ (Below.refl _ _)
    · intro ac wd hJ hfr hdep
      have s79 : ac.tmps.getD 79 undef = .bool true := hdep 2 _ 79 (by decide) rfl rfl
      have s79' := slot' s79
      clear hfr hdep
      refine if_wanted rfl (fun Q => op_any (fun K hK => ?_))
      go_simp
      exact hK _ _ rfl hJ (Below.refl _ _)
    · intro ac wd hJ hfr hdep
      have sg : ac.tmps.getD 80 undef = .bool true := hdep 3 _ 80 (by decide) rfl rfl
      have s9 : ac.tmps.getD 9 undef = .int .i64 E := (hfr 9 (by decide)).trans rfl
      have s9' := slot' s9
      clear hfr hdep
      refine if_wanted (wanted_yes rfl rfl rfl sg) (fun Q => op_any (fun K hK => ?_))
      go_simp
      exact hK _ _ rfl hJ (Below.refl _ _)
    · intro ac wd hJ hfr hdep
      have sg : ac.tmps.getD 80 undef = .bool true := hdep 3 _ 80 (by decide) rfl rfl
      have s10 : ac.tmps.getD 10 undef = .int .i64 E := (hfr 10 (by decide)).trans rfl
      have s10' := slot' s10
      clear hfr hdep
      refine if_wanted (wanted_yes rfl rfl rfl sg) (fun Q => op_any (fun K hK => ?_))
      go_simp
      exact hK _ _ rfl hJ (Below.refl _ _)
    · intro ac wd hJ hfr hdep
      have sg : ac.tmps.getD 80 undef = .bool true := hdep 3 _ 80 (by decide) rfl rfl
      have s81 : ac.tmps.getD 81 undef = .int .i64 E := hdep 4 _ 81 (by decide) rfl rfl
      have s82 : ac.tmps.getD 82 undef = .int .i64 E := hdep 5 _ 82 (by decide) rfl rfl
      have s81' := slot' s81
      have s82' := slot' s82
      clear hfr hdep
      refine if_wanted (wanted_yes rfl rfl rfl sg) (fun Q => op_any (fun K hK => ?_))
      go_simp
      exact hK _ _ rfl hJ (Below.refl _ _)
    · intro ac wd hJ hfr hdep
      have s80 : ac.tmps.getD 80 undef = .bool true := hdep 3 _ 80 (by decide) rfl rfl
      have s83 : ac.tmps.getD 83 undef = .bool true := hdep 6 _ 83 (by decide) rfl rfl
      have s80' := slot' s80
      have s83' := slot' s83
      clear hfr hdep
      refine if_wanted rfl (fun Q => op_any (fun K hK => ?_))
      go_simp
      exact hK _ _ rfl hJ (Below.refl _ _)
    · intro ac wd hJ hfr hdep
      have s84 : ac.tmps.getD 84 undef = .bool true := hdep 7 _ 84 (by decide) rfl rfl
      have s84' := slot' s84
      clear hfr hdep
      refine if_wanted rfl (fun Q => op_any (fun K hK => ?_))
      go_simp
      exact hK _ _ rfl hJ (Below.refl _ _)
    · intro ac wd hJ hfr hdep
      have sg : ac.tmps.getD 85 undef = .bool true := hdep 8 _ 85 (by decide) rfl rfl
      have s0 : ac.tmps.getD 0 undef = .pointer (some ⟨R, 0, none⟩) := (hfr 0 (by decide)).trans rfl
      have s0' := slot' s0
      clear hfr hdep
      refine if_wanted (wanted_yes rfl rfl rfl sg) (fun Q => op_any (fun K hK => ?_))
      go_simp
      exact hK _ _ rfl hJ (Below.refl _ _)
    · intro ac wd hJ hfr hdep
      have sg : ac.tmps.getD 85 undef = .bool true := hdep 8 _ 85 (by decide) rfl rfl
      have s86 : ac.tmps.getD 86 undef = .pointer (some ⟨R, 0, none⟩) := hdep 9 _ 86 (by decide) rfl rfl
      have s86' := slot' s86
      clear hfr hdep
      refine if_wanted (wanted_yes rfl rfl rfl sg) (fun Q => op_any (fun K hK => ?_))
      go_simp
      refine (HAt.out _ hJ).mono ?_
      rintro e w1 ⟨rfl, hb1⟩
      exact hK _ _ rfl (bnext hJ hb1) hb1
    · intro ac wd hJ hfr hdep
      have sg : ac.tmps.getD 85 undef = .bool true := hdep 8 _ 85 (by decide) rfl rfl
      have s1 : ac.tmps.getD 1 undef = .pointer (some ⟨X, 0, none⟩) := (hfr 1 (by decide)).trans rfl
      have s1' := slot' s1
      clear hfr hdep
      refine if_wanted (wanted_yes rfl rfl rfl sg) (fun Q => op_any (fun K hK => ?_))
      go_simp
      exact hK _ _ rfl hJ (Below.refl _ _)
    · intro ac wd hJ hfr hdep
      have sg : ac.tmps.getD 85 undef = .bool true := hdep 8 _ 85 (by decide) rfl rfl
      have s88 : ac.tmps.getD 88 undef = .pointer (some ⟨X, 0, none⟩) := hdep 11 _ 88 (by decide) rfl rfl
      have s88' := slot' s88
      clear hfr hdep
      refine if_wanted (wanted_yes rfl rfl rfl sg) (fun Q => op_any (fun K hK => ?_))
      go_simp
      exact hK _ _ rfl hJ (Below.refl _ _)
    · intro ac wd hJ hfr hdep
      have sg : ac.tmps.getD 85 undef = .bool true := hdep 8 _ 85 (by decide) rfl rfl
      have s89 : ac.tmps.getD 89 undef = .pointer (some ⟨X, 0, none⟩) := hdep 12 _ 89 (by decide) rfl rfl
      have s89' := slot' s89
      clear hfr hdep
      refine if_wanted (wanted_yes rfl rfl rfl sg) (fun Q => op_any (fun K hK => ?_))
      go_simp
      exact hK _ _ rfl hJ (Below.refl _ _)
    · intro ac wd hJ hfr hdep
      have sg : ac.tmps.getD 85 undef = .bool true := hdep 8 _ 85 (by decide) rfl rfl
      have s90 : ac.tmps.getD 90 undef = .pointer (some ⟨X, 1, none⟩) := hdep 13 _ 90 (by decide) rfl rfl
      have s90' := slot' s90
      clear hfr hdep
      refine if_wanted (wanted_yes rfl rfl rfl sg) (fun Q => op_any (fun K hK => ?_))
      have hx := HC1.out wd hJ
      go_simp
      exact hK _ _ rfl hJ (Below.refl _ _)
    · intro ac wd hJ hfr hdep
      have sg : ac.tmps.getD 85 undef = .bool true := hdep 8 _ 85 (by decide) rfl rfl
      have s87 : ac.tmps.getD 87 undef = .int .i64 (T : Int) := hdep 10 _ 87 (by decide) rfl rfl
      have s91 : ac.tmps.getD 91 undef = .int .i64 (T : Int) := hdep 14 _ 91 (by decide) rfl rfl
      have s87' := slot' s87
      have s91' := slot' s91
      clear hfr hdep
      refine if_wanted (wanted_yes rfl rfl rfl sg) (fun Q => op_any (fun K hK => ?_))
      go_simp
      exact hK _ _ rfl hJ (Below.refl _ _)
    · intro ac wd hJ hfr hdep
      have s85 : ac.tmps.getD 85 undef = .bool true := hdep 8 _ 85 (by decide) rfl rfl
      have s92 : ac.tmps.getD 92 undef = .bool true := hdep 15 _ 92 (by decide) rfl rfl
      have s85' := slot' s85
      have s92' := slot' s92
      clear hfr hdep
      refine if_wanted rfl (fun Q => op_any (fun K hK => ?_))
      go_simp
      exact hK _ _ rfl hJ (Below.refl _ _)
    · intro ac wd hJ hfr hdep
      have s93 : ac.tmps.getD 93 undef = .bool true := hdep 16 _ 93 (by decide) rfl rfl
      have s93' := slot' s93
      clear hfr hdep
      refine if_wanted rfl (fun Q => op_any (fun K hK => ?_))
      go_simp
      exact hK _ _ rfl hJ (Below.refl _ _)
    · intro ac wd hJ hfr hdep
      have sg : ac.tmps.getD 94 undef = .bool true := hdep 17 _ 94 (by decide) rfl rfl
      have s0 : ac.tmps.getD 0 undef = .pointer (some ⟨R, 0, none⟩) := (hfr 0 (by decide)).trans rfl
      have s0' := slot' s0
      clear hfr hdep
      refine if_wanted (wanted_yes rfl rfl rfl sg) (fun Q => op_any (fun K hK => ?_))
      go_simp
      exact hK _ _ rfl hJ (Below.refl _ _)
    · intro ac wd hJ hfr hdep
      have sg : ac.tmps.getD 94 undef = .bool true := hdep 17 _ 94 (by decide) rfl rfl
      have s95 : ac.tmps.getD 95 undef = .pointer (some ⟨R, 0, none⟩) := hdep 18 _ 95 (by decide) rfl rfl
      have s95' := slot' s95
      clear hfr hdep
      refine if_wanted (wanted_yes rfl rfl rfl sg) (fun Q => op_any (fun K hK => ?_))
      go_simp
      refine (HLf.out _ hJ).mono ?_
      rintro e w1 ⟨rfl, hb1⟩
      exact hK _ _ rfl (bnext hJ hb1) hb1
    · intro ac wd hJ hfr hdep
      have sg : ac.tmps.getD 94 undef = .bool true := hdep 17 _ 94 (by decide) rfl rfl
      have s1 : ac.tmps.getD 1 undef = .pointer (some ⟨X, 0, none⟩) := (hfr 1 (by decide)).trans rfl
      have s1' := slot' s1
      clear hfr hdep
      refine if_wanted (wanted_yes rfl rfl rfl sg) (fun Q => op_any (fun K hK => ?_))
      go_simp
      exact hK _ _ rfl hJ (Below.refl _ _)
    · intro ac wd hJ hfr hdep
      have sg : ac.tmps.getD 94 undef = .bool true := hdep 17 _ 94 (by decide) rfl rfl
      have s97 : ac.tmps.getD 97 undef = .pointer (some ⟨X, 0, none⟩) := hdep 20 _ 97 (by decide) rfl rfl
      have s97' := slot' s97
      clear hfr hdep
      refine if_wanted (wanted_yes rfl rfl rfl sg) (fun Q => op_any (fun K hK => ?_))
      go_simp
      exact hK _ _ rfl hJ (Below.refl _ _)
    · intro ac wd hJ hfr hdep
      have sg : ac.tmps.getD 94 undef = .bool true := hdep 17 _ 94 (by decide) rfl rfl
      have s98 : ac.tmps.getD 98 undef = .pointer (some ⟨X, 0, none⟩) := hdep 21 _ 98 (by decide) rfl rfl
      have s98' := slot' s98
      clear hfr hdep
      refine if_wanted (wanted_yes rfl rfl rfl sg) (fun Q => op_any (fun K hK => ?_))
      go_simp
      exact hK _ _ rfl hJ (Below.refl _ _)
    · intro ac wd hJ hfr hdep
      have sg : ac.tmps.getD 94 undef = .bool true := hdep 17 _ 94 (by decide) rfl rfl
      have s99 : ac.tmps.getD 99 undef = .pointer (some ⟨X, 0, none⟩) := hdep 22 _ 99 (by decide) rfl rfl
      have s99' := slot' s99
      clear hfr hdep
      refine if_wanted (wanted_yes rfl rfl rfl sg) (fun Q => op_any (fun K hK => ?_))
      have hx := HC0.out wd hJ
      go_simp
      exact hK _ _ rfl hJ (Below.refl _ _)
    · intro ac wd hJ hfr hdep
      have sg : ac.tmps.getD 94 undef = .bool true := hdep 17 _ 94 (by decide) rfl rfl
      have s100 : ac.tmps.getD 100 undef = .slice A2 (8 * l.length) c2 := hdep 23 _ 100 (by decide) rfl rfl
      have s100' := slot' s100
      clear hfr hdep
      refine if_wanted (wanted_yes rfl rfl rfl sg) (fun Q => op_any (fun K hK => ?_))
      go_simp
      exact hK _ _ rfl hJ (Below.refl _ _)
    · intro ac wd hJ hfr hdep
      have sg : ac.tmps.getD 94 undef = .bool true := hdep 17 _ 94 (by decide) rfl rfl
      have s1 : ac.tmps.getD 1 undef = .pointer (some ⟨X, 0, none⟩) := (hfr 1 (by decide)).trans rfl
      have s1' := slot' s1
      clear hfr hdep
      refine if_wanted (wanted_yes rfl rfl rfl sg) (fun Q => op_any (fun K hK => ?_))
      go_simp
      exact hK _ _ rfl hJ (Below.refl _ _)
    · intro ac wd hJ hfr hdep
      have sg : ac.tmps.getD 94 undef = .bool true := hdep 17 _ 94 (by decide) rfl rfl
      have s102 : ac.tmps.getD 102 undef = .pointer (some ⟨X, 0, none⟩) := hdep 25 _ 102 (by decide) rfl rfl
      have s102' := slot' s102
      clear hfr hdep
      refine if_wanted (wanted_yes rfl rfl rfl sg) (fun Q => op_any (fun K hK => ?_))
      go_simp
      exact hK _ _ rfl hJ (Below.refl _ _)
    · intro ac wd hJ hfr hdep
      have sg : ac.tmps.getD 94 undef = .bool true := hdep 17 _ 94 (by decide) rfl rfl
      have s103 : ac.tmps.getD 103 undef = .pointer (some ⟨X, 0, none⟩) := hdep 26 _ 103 (by decide) rfl rfl
      have s103' := slot' s103
      clear hfr hdep
      refine if_wanted (wanted_yes rfl rfl rfl sg) (fun Q => op_any (fun K hK => ?_))
      go_simp
      exact hK _ _ rfl hJ (Below.refl _ _)
    · intro ac wd hJ hfr hdep
      have sg : ac.tmps.getD 94 undef = .bool true := hdep 17 _ 94 (by decide) rfl rfl
      have s104 : ac.tmps.getD 104 undef = .pointer (some ⟨X, 1, none⟩) := hdep 27 _ 104 (by decide) rfl rfl
      have s104' := slot' s104
      clear hfr hdep
      refine if_wanted (wanted_yes rfl rfl rfl sg) (fun Q => op_any (fun K hK => ?_))
      have hx := HC1.out wd hJ
      go_simp
      exact hK _ _ rfl hJ (Below.refl _ _)
    · intro ac wd hJ hfr hdep
      have sg : ac.tmps.getD 94 undef = .bool true := hdep 17 _ 94 (by decide) rfl rfl
      have s101 : ac.tmps.getD 101 undef = .int .i64 (8 * l.length : Nat) := hdep 24 _ 101 (by decide) rfl rfl
      have s105 : ac.tmps.getD 105 undef = .int .i64 (T : Int) := hdep 28 _ 105 (by decide) rfl rfl
      have s101' := slot' s101
      have s105' := slot' s105
      clear hfr hdep
      refine if_wanted (wanted_yes rfl rfl rfl sg) (fun Q => op_any (fun K hK => ?_))
      go_simp
      exact hK _ _ rfl hJ (Below.refl _ _)
    · intro ac wd hJ hfr hdep
      have sg : ac.tmps.getD 94 undef = .bool true := hdep 17 _ 94 (by decide) rfl rfl
      have s96 : ac.tmps.getD 96 undef = .int .i64 (8 * (l.length : Int) - (T : Int)) := hdep 19 _ 96 (by decide) rfl rfl
      have s106 : ac.tmps.getD 106 undef = .int .i64 (8 * (l.length : Int) - (T : Int)) := hdep 29 _ 106 (by decide) rfl rfl
      have s96' := slot' s96
      have s106' := slot' s106
      clear hfr hdep
      refine if_wanted (wanted_yes rfl rfl rfl sg) (fun Q => op_any (fun K hK => ?_))
      go_simp
      exact hK _ _ rfl hJ (Below.refl _ _)
    · intro ac wd hJ hfr hdep
      have s94 : ac.tmps.getD 94 undef = .bool true := hdep 17 _ 94 (by decide) rfl rfl
      have s107 : ac.tmps.getD 107 undef = .bool true := hdep 30 _ 107 (by decide) rfl rfl
      have s94' := slot' s94
      have s107' := slot' s107
      clear hfr hdep
      refine if_wanted rfl (fun Q => op_any (fun K hK => ?_))
      go_simp
      exact hK _ _ rfl hJ (Below.refl _ _)
    · intro ac wd hJ hfr hdep
      have s108 : ac.tmps.getD 108 undef = .bool true := hdep 31 _ 108 (by decide) rfl rfl
      have s108' := slot' s108
      clear hfr hdep
      refine if_wanted rfl (fun Q => op_any (fun K hK => ?_))
      go_simp
      exact hK _ _ rfl hJ (Below.refl _ _)
    intro f w' hJ hR
    have e0 : f 0 = .int .i64 V := hR 0 (by decide)
    have e1 : f 1 = .int .i64 V := hR 1 (by decide)
    have e2 : f 2 = .bool true := hR 2 (by decide)
    have e3 : f 3 = .bool true := hR 3 (by decide)
    have e4 : f 4 = .int .i64 E := hR 4 (by decide)
    have e5 : f 5 = .int .i64 E := hR 5 (by decide)
    have e6 : f 6 = .bool true := hR 6 (by decide)
    have e7 : f 7 = .bool true := hR 7 (by decide)
    have e8 : f 8 = .bool true := hR 8 (by decide)
    have e9 : f 9 = .pointer (some ⟨R, 0, none⟩) := hR 9 (by decide)
    have e10 : f 10 = .int .i64 (T : Int) := hR 10 (by decide)
    have e11 : f 11 = .pointer (some ⟨X, 0, none⟩) := hR 11 (by decide)
    have e12 : f 12 = .pointer (some ⟨X, 0, none⟩) := hR 12 (by decide)
    have e13 : f 13 = .pointer (some ⟨X, 1, none⟩) := hR 13 (by decide)
    have e14 : f 14 = .int .i64 (T : Int) := hR 14 (by decide)
    have e15 : f 15 = .bool true := hR 15 (by decide)
    have e16 : f 16 = .bool true := hR 16 (by decide)
    have e17 : f 17 = .bool true := hR 17 (by decide)
    have e18 : f 18 = .pointer (some ⟨R, 0, none⟩) := hR 18 (by decide)
    have e19 : f 19 = .int .i64 (8 * (l.length : Int) - (T : Int)) := hR 19 (by decide)
    have e20 : f 20 = .pointer (some ⟨X, 0, none⟩) := hR 20 (by decide)
    have e21 : f 21 = .pointer (some ⟨X, 0, none⟩) := hR 21 (by decide)
    have e22 : f 22 = .pointer (some ⟨X, 0, none⟩) := hR 22 (by decide)
    have e23 : f 23 = .slice A2 (8 * l.length) c2 := hR 23 (by decide)
    have e24 : f 24 = .int .i64 (8 * l.length : Nat) := hR 24 (by decide)
    have e25 : f 25 = .pointer (some ⟨X, 0, none⟩) := hR 25 (by decide)
    have e26 : f 26 = .pointer (some ⟨X, 0, none⟩) := hR 26 (by decide)
    have e27 : f 27 = .pointer (some ⟨X, 1, none⟩) := hR 27 (by decide)
    have e28 : f 28 = .int .i64 (T : Int) := hR 28 (by decide)
    have e29 : f 29 = .int .i64 (8 * (l.length : Int) - (T : Int)) := hR 29 (by decide)
    have e30 : f 30 = .bool true := hR 30 (by decide)
    have e31 : f 31 = .bool true := hR 31 (by decide)
    have e32 : f 32 = .bool true := hR 32 (by decide)
    clear hR
    simp only [finA, Act.put, List.setIfInBounds_toArray, List.set_cons_succ, List.set_cons_zero, Nat.reduceAdd, e0, e1, e2, e3, e4, e5, e6, e7, e8, e9, e10, e11, e12, e13, e14, e15, e16, e17, e18, e19, e20, e21, e22, e23, e24, e25, e26, e27, e28, e29, e30, e31, e32]
    clear e0 e1 e2 e3 e4 e5 e6 e7 e8 e9 e10 e11 e12 e13 e14 e15 e16 e17 e18 e19 e20 e21 e22 e23 e24 e25 e26 e27 e28 e29 e30 e31 e32
    have hend : DoesPost R X A A2 l c c2 w (.returned (.bool true)) w' := HD.out _ hJ
    go_wp2_with fail
    go_ret
    exact hend
  have hb2 : (a == 2) = false := by rw [beq_eq_false_iff_ne]; exact ha2
  by_cases ha3 : a = 3
  · obtain rfl := ha3
    clear K0 K1 K2
    go_wp2_with fail
    refine (Align_any R t A l c _ (HR0.out _)).mono ?_
    rintro e w8 ⟨rfl, hR8, f8⟩
    have hX8 := (HX0.out _).keep f8 hXR HAR.out
    have hq1 := f8.cell hO1.out (fun e => hBR e)
    clear HX0 HR0 hO1
    have HB8 := Lib.hid ((fun W h => RAlign_any X t A2 (bitL l (8 * l.length)) c2 W h (by rw [bitL_length]; omega)) w8 hX8)
    try rw [bitL_length] at HB8
    rw [K3.out.1, K3.out.2.1, K3.out.2.2] at HB8
    (obtain ⟨V, hV⟩ : ∃ V : Int, ((alV l t : Nat) : Int) = V := ⟨_, rfl⟩); rw [hV] at HB8 ⊢; generalize alT l t = T at *; generalize alE l t = E at *; clear K3 hV
    go_wp2_with fail
    refine HB8.out.mono ?_
    rintro e w9 ⟨rfl, hX9, f9⟩
    have hR9 := hR8.keep f9 (fun e => hXR e.symm) HAX.out
    have HF9 : Hid (Fr (fun k => k = R ∨ k = X) w w9) := ((Fr.of (bal (Below.refl _ _) _)).trans (f8.wide (fun k h => .inl h))).trans (f9.wide (fun k h => .inr h))
    clear HB8 hX8 hR8 f8 f9
    try clear hq1
    have HAt := Lib.hid (fun W (hW : Below w9.heap.size w9 W) => At_any R T A l.length c W (hR9.below hW).row)
    have HLf := Lib.hid (fun W (hW : Below w9.heap.size w9 W) => Left_any R T A l.length c W (hR9.below hW).row hR9.le (by omega))
    have HC0 : Hid (∀ W, Below w9.heap.size w9 W → W.cell? ⟨X, 0, none⟩ = some (.slice A2 (8 * l.length) c2)) := fun W hW => by have := (hX9.below hW).c0; rw [bitL_length] at this; exact this
    have HC1 : Hid (∀ W, Below w9.heap.size w9 W → W.cell? ⟨X, 1, none⟩ = some (.int .i64 (T : Int))) := fun W hW => (hX9.below hW).c1
    have HD : Hid (∀ W, Below w9.heap.size w9 W → DoesPost R X A A2 l c c2 w (.returned (.bool true)) W) := fun W hW => ⟨rfl, T, hR9.below hW, hX9.below hW, HF9.out.trans (Fr.of hW)⟩
    have hTl := hR9.le
    have e1 : IntKind.i64.wrap (8 * (l.length : Int) - (T : Int)) = 8 * (l.length : Int) - (T : Int) := by rw [IntKind.wrap_i64]; omega
    clear hR9 hX9 hTl
    go_wp2_with fail
    refine wp_region_specs [
      Spec.val (.int .i64 V),
      Spec.val (.int .i64 V),
      Spec.val (.bool true),
      Spec.val (.bool true),
      Spec.val (.int .i64 E),
      Spec.val (.int .i64 E),
      Spec.val (.bool true),
      Spec.val (.bool true),
      Spec.val (.bool true),
      Spec.val (.pointer (some ⟨R, 0, none⟩)),
      Spec.val (.int .i64 (T : Int)),
      Spec.val (.pointer (some ⟨X, 0, none⟩)),
      Spec.val (.pointer (some ⟨X, 0, none⟩)),
      Spec.val (.pointer (some ⟨X, 1, none⟩)),
      Spec.val (.int .i64 (T : Int)),
      Spec.val (.bool true),
      Spec.val (.bool true),
      Spec.val (.bool true),
      Spec.val (.pointer (some ⟨R, 0, none⟩)),
      Spec.val (.int .i64 (8 * (l.length : Int) - (T : Int))),
      Spec.val (.pointer (some ⟨X, 0, none⟩)),
      Spec.val (.pointer (some ⟨X, 0, none⟩)),
      Spec.val (.pointer (some ⟨X, 0, none⟩)),
      Spec.val (.slice A2 (8 * l.length) c2),
      Spec.val (.int .i64 (8 * l.length : Nat)),
      Spec.val (.pointer (some ⟨X, 0, none⟩)),
      Spec.val (.pointer (some ⟨X, 0, none⟩)),
      Spec.val (.pointer (some ⟨X, 1, none⟩)),
      Spec.val (.int .i64 (T : Int)),
      Spec.val (.int .i64 (8 * (l.length : Int) - (T : Int))),
      Spec.val (.bool true),
      Spec.val (.bool true),
      Spec.val (.bool true)] w9 (by kernel_rfl) (by repeat (first | exact Below.refl _ _ | assumption | refine below_drewN ?_ _ | refine Below.drew ?_ | refine Below.alloc ?_ (Nat.le_refl _) _ | refine bal ?_ _ | refine bnext ?_ (by assumption))) (n := 109) rfl (by decide +kernel) ⟨?_, ?_, ?_, ?_, ?_, ?_, ?_, ?_, ?_, ?_, ?_, ?_, ?_, ?_, ?_, ?_, ?_, ?_, ?_, ?_, ?_, ?_, ?_, ?_, ?_, ?_, ?_, ?_, ?_, ?_, ?_, ?_, ?_, trivial⟩ ?_
    · intro ac wd hJ hfr hdep
      have s7 : ac.tmps.getD 7 undef = .int .i64 V := (hfr 7 (by decide)).trans rfl
      have s7' := slot' s7
      clear hfr hdep
      refine if_wanted rfl (fun Q => op_any (fun K hK => ?_))
      go_simp
      exact hK _ _ rfl hJ (Below.refl _ _)
    · intro ac wd hJ hfr hdep
      have s8 : ac.tmps.getD 8 undef = .int .i64 V := (hfr 8 (by decide)).trans rfl
      have s8' := slot' s8
      clear hfr hdep
      refine if_wanted rfl (fun Q => op_any (fun K hK => ?_))
      go_simp
      exact hK _ _ rfl hJ (Below.refl _ _)
    · intro ac wd hJ hfr hdep
      have s77 : ac.tmps.getD 77 undef = .int .i64 V := hdep 0 _ 77 (by decide) rfl rfl
      have s78 : ac.tmps.getD 78 undef = .int .i64 V := hdep 1 _ 78 (by decide) rfl rfl
      have s77' := slot' s77
      have s78' := slot' s78
      clear hfr hdep
      refine if_wanted rfl (fun Q => op_any (fun K hK => ?_))
      go_simp
      exact hK _ _ rfl hJ (Below.refl _ _)
    · intro ac wd hJ hfr hdep
      have s79 : ac.tmps.getD 79 undef = .bool true := hdep 2 _ 79 (by decide) rfl rfl
      have s79' := slot' s79
      clear hfr hdep
      refine if_wanted rfl (fun Q => op_any (fun K hK => ?_))
      go_simp
      exact hK _ _ rfl hJ (Below.refl _ _)
    · intro ac wd hJ hfr hdep
      have sg : ac.tmps.getD 80 undef = .bool true := hdep 3 _ 80 (by decide) rfl rfl
      have s9 : ac.tmps.getD 9 undef = .int .i64 E := (hfr 9 (by decide)).trans rfl
      have s9' := slot' s9
      clear hfr hdep
      refine if_wanted (wanted_yes rfl rfl rfl sg) (fun Q => op_any (fun K hK => ?_))
      go_simp
      exact hK _ _ rfl hJ (Below.refl _ _)
    · intro ac wd hJ hfr hdep
      have sg : ac.tmps.getD 80 undef = .bool true := hdep 3 _ 80 (by decide) rfl rfl
      have s10 : ac.tmps.getD 10 undef = .int .i64 E := (hfr 10 (by decide)).trans rfl
      have s10' := slot' s10
      clear hfr hdep
      refine if_wanted (wanted_yes rfl rfl rfl sg) (fun Q => op_any (fun K hK => ?_))
      go_simp
      exact hK _ _ rfl hJ (Below.refl _ _)
    · intro ac wd hJ hfr hdep
      have sg : ac.tmps.getD 80 undef = .bool true := hdep 3 _ 80 (by decide) rfl rfl
      have s81 : ac.tmps.getD 81 undef = .int .i64 E := hdep 4 _ 81 (by decide) rfl rfl
      have s82 : ac.tmps.getD 82 undef = .int .i64 E := hdep 5 _ 82 (by decide) rfl rfl
      have s81' := slot' s81
      have s82' := slot' s82
      clear hfr hdep
      refine if_wanted (wanted_yes rfl rfl rfl sg) (fun Q => op_any (fun K hK => ?_))
      go_simp
      exact hK _ _ rfl hJ (Below.refl _ _)
    · intro ac wd hJ hfr hdep
      have s80 : ac.tmps.getD 80 undef = .bool true := hdep 3 _ 80 (by decide) rfl rfl
      have s83 : ac.tmps.getD 83 undef = .bool true := hdep 6 _ 83 (by decide) rfl rfl
      have s80' := slot' s80
      have s83' := slot' s83
      clear hfr hdep
      refine if_wanted rfl (fun Q => op_any (fun K hK => ?_))
      go_simp
      exact hK _ _ rfl hJ (Below.refl _ _)
    · intro ac wd hJ hfr hdep
      have s84 : ac.tmps.getD 84 undef = .bool true := hdep 7 _ 84 (by decide) rfl rfl
      have s84' := slot' s84
      clear hfr hdep
      refine if_wanted rfl (fun Q => op_any (fun K hK => ?_))
      go_simp
      exact hK _ _ rfl hJ (Below.refl _ _)
    · intro ac wd hJ hfr hdep
      have sg : ac.tmps.getD 85 undef = .bool true := hdep 8 _ 85 (by decide) rfl rfl
      have s0 : ac.tmps.getD 0 undef = .pointer (some ⟨R, 0, none⟩) := (hfr 0 (by decide)).trans rfl
      have s0' := slot' s0
      clear hfr hdep
      refine if_wanted (wanted_yes rfl rfl rfl sg) (fun Q => op_any (fun K hK => ?_))
      go_simp
      exact hK _ _ rfl hJ (Below.refl _ _)
    · intro ac wd hJ hfr hdep
      have sg : ac.tmps.getD 85 undef = .bool true := hdep 8 _ 85 (by decide) rfl rfl
      have s86 : ac.tmps.getD 86 undef = .pointer (some ⟨R, 0, none⟩) := hdep 9 _ 86 (by decide) rfl rfl
      have s86' := slot' s86
      clear hfr hdep
      refine if_wanted (wanted_yes rfl rfl rfl sg) (fun Q => op_any (fun K hK => ?_))
      go_simp
      refine (HAt.out _ hJ).mono ?_
      rintro e w1 ⟨rfl, hb1⟩
      exact hK _ _ rfl (bnext hJ hb1) hb1
    · intro ac wd hJ hfr hdep
      have sg : ac.tmps.getD 85 undef = .bool true := hdep 8 _ 85 (by decide) rfl rfl
      have s1 : ac.tmps.getD 1 undef = .pointer (some ⟨X, 0, none⟩) := (hfr 1 (by decide)).trans rfl
      have s1' := slot' s1
      clear hfr hdep
      refine if_wanted (wanted_yes rfl rfl rfl sg) (fun Q => op_any (fun K hK => ?_))
      go_simp
      exact hK _ _ rfl hJ (Below.refl _ _)
    · intro ac wd hJ hfr hdep
      have sg : ac.tmps.getD 85 undef = .bool true := hdep 8 _ 85 (by decide) rfl rfl
      have s88 : ac.tmps.getD 88 undef = .pointer (some ⟨X, 0, none⟩) := hdep 11 _ 88 (by decide) rfl rfl
      have s88' := slot' s88
      clear hfr hdep
      refine if_wanted (wanted_yes rfl rfl rfl sg) (fun Q => op_any (fun K hK => ?_))
      go_simp
      exact hK _ _ rfl hJ (Below.refl _ _)
    · intro ac wd hJ hfr hdep
      have sg : ac.tmps.getD 85 undef = .bool true := hdep 8 _ 85 (by decide) rfl rfl
      have s89 : ac.tmps.getD 89 undef = .pointer (some ⟨X, 0, none⟩) := hdep 12 _ 89 (by decide) rfl rfl
      have s89' := slot' s89
      clear hfr hdep
      refine if_wanted (wanted_yes rfl rfl rfl sg) (fun Q => op_any (fun K hK => ?_))
      go_simp
      exact hK _ _ rfl hJ (Below.refl _ _)
    · intro ac wd hJ hfr hdep
      have sg : ac.tmps.getD 85 undef = .bool true := hdep 8 _ 85 (by decide) rfl rfl
      have s90 : ac.tmps.getD 90 undef = .pointer (some ⟨X, 1, none⟩) := hdep 13 _ 90 (by decide) rfl rfl
      have s90' := slot' s90
      clear hfr hdep
      refine if_wanted (wanted_yes rfl rfl rfl sg) (fun Q => op_any (fun K hK => ?_))
      have hx := HC1.out wd hJ
      go_simp
      exact hK _ _ rfl hJ (Below.refl _ _)
    · intro ac wd hJ hfr hdep
      have sg : ac.tmps.getD 85 undef = .bool true := hdep 8 _ 85 (by decide) rfl rfl
      have s87 : ac.tmps.getD 87 undef = .int .i64 (T : Int) := hdep 10 _ 87 (by decide) rfl rfl
      have s91 : ac.tmps.getD 91 undef = .int .i64 (T : Int) := hdep 14 _ 91 (by decide) rfl rfl
      have s87' := slot' s87
      have s91' := slot' s91
      clear hfr hdep
      refine if_wanted (wanted_yes rfl rfl rfl sg) (fun Q => op_any (fun K hK => ?_))
      go_simp
      exact hK _ _ rfl hJ (Below.refl _ _)
    · intro ac wd hJ hfr hdep
      have s85 : ac.tmps.getD 85 undef = .bool true := hdep 8 _ 85 (by decide) rfl rfl
      have s92 : ac.tmps.getD 92 undef = .bool true := hdep 15 _ 92 (by decide) rfl rfl
      have s85' := slot' s85
      have s92' := slot' s92
      clear hfr hdep
      refine if_wanted rfl (fun Q => op_any (fun K hK => ?_))
      go_simp
      exact hK _ _ rfl hJ (Below.refl _ _)
    · intro ac wd hJ hfr hdep
      have s93 : ac.tmps.getD 93 undef = .bool true := hdep 16 _ 93 (by decide) rfl rfl
      have s93' := slot' s93
      clear hfr hdep
      refine if_wanted rfl (fun Q => op_any (fun K hK => ?_))
      go_simp
      exact hK _ _ rfl hJ (Below.refl _ _)
    · intro ac wd hJ hfr hdep
      have sg : ac.tmps.getD 94 undef = .bool true := hdep 17 _ 94 (by decide) rfl rfl
      have s0 : ac.tmps.getD 0 undef = .pointer (some ⟨R, 0, none⟩) := (hfr 0 (by decide)).trans rfl
      have s0' := slot' s0
      clear hfr hdep
      refine if_wanted (wanted_yes rfl rfl rfl sg) (fun Q => op_any (fun K hK => ?_))
      go_simp
      exact hK _ _ rfl hJ (Below.refl _ _)
    · intro ac wd hJ hfr hdep
      have sg : ac.tmps.getD 94 undef = .bool true := hdep 17 _ 94 (by decide) rfl rfl
      have s95 : ac.tmps.getD 95 undef = .pointer (some ⟨R, 0, none⟩) := hdep 18 _ 95 (by decide) rfl rfl
      have s95' := slot' s95
      clear hfr hdep
      refine if_wanted (wanted_yes rfl rfl rfl sg) (fun Q => op_any (fun K hK => ?_))
      go_simp
      refine (HLf.out _ hJ).mono ?_
      rintro e w1 ⟨rfl, hb1⟩
      exact hK _ _ rfl (bnext hJ hb1) hb1
    · intro ac wd hJ hfr hdep
      have sg : ac.tmps.getD 94 undef = .bool true := hdep 17 _ 94 (by decide) rfl rfl
      have s1 : ac.tmps.getD 1 undef = .pointer (some ⟨X, 0, none⟩) := (hfr 1 (by decide)).trans rfl
      have s1' := slot' s1
      clear hfr hdep
      refine if_wanted (wanted_yes rfl rfl rfl sg) (fun Q => op_any (fun K hK => ?_))
      go_simp
      exact hK _ _ rfl hJ (Below.refl _ _)
    · intro ac wd hJ hfr hdep
      have sg : ac.tmps.getD 94 undef = .bool true := hdep 17 _ 94 (by decide) rfl rfl
      have s97 : ac.tmps.getD 97 undef = .pointer (some ⟨X, 0, none⟩) := hdep 20 _ 97 (by decide) rfl rfl
      have s97' := slot' s97
      clear hfr hdep
      refine if_wanted (wanted_yes rfl rfl rfl sg) (fun Q => op_any (fun K hK => ?_))
      go_simp
      exact hK _ _ rfl hJ (Below.refl _ _)
    · intro ac wd hJ hfr hdep
      have sg : ac.tmps.getD 94 undef = .bool true := hdep 17 _ 94 (by decide) rfl rfl
      have s98 : ac.tmps.getD 98 undef = .pointer (some ⟨X, 0, none⟩) := hdep 21 _ 98 (by decide) rfl rfl
      have s98' := slot' s98
      clear hfr hdep
      refine if_wanted (wanted_yes rfl rfl rfl sg) (fun Q => op_any (fun K hK => ?_))
      go_simp
      exact hK _ _ rfl hJ (Below.refl _ _)
    · intro ac wd hJ hfr hdep
      have sg : ac.tmps.getD 94 undef = .bool true := hdep 17 _ 94 (by decide) rfl rfl
      have s99 : ac.tmps.getD 99 undef = .pointer (some ⟨X, 0, none⟩) := hdep 22 _ 99 (by decide) rfl rfl
      have s99' := slot' s99
      clear hfr hdep
      refine if_wanted (wanted_yes rfl rfl rfl sg) (fun Q => op_any (fun K hK => ?_))
      have hx := HC0.out wd hJ
      go_simp
      exact hK _ _ rfl hJ (Below.refl _ _)
    · intro ac wd hJ hfr hdep
      have sg : ac.tmps.getD 94 undef = .bool true := hdep 17 _ 94 (by decide) rfl rfl
      have s100 : ac.tmps.getD 100 undef = .slice A2 (8 * l.length) c2 := hdep 23 _ 100 (by decide) rfl rfl
      have s100' := slot' s100
      clear hfr hdep
      refine if_wanted (wanted_yes rfl rfl rfl sg) (fun Q => op_any (fun K hK => ?_))
      go_simp
      exact hK _ _ rfl hJ (Below.refl _ _)
    · intro ac wd hJ hfr hdep
      have sg : ac.tmps.getD 94 undef = .bool true := hdep 17 _ 94 (by decide) rfl rfl
      have s1 : ac.tmps.getD 1 undef = .pointer (some ⟨X, 0, none⟩) := (hfr 1 (by decide)).trans rfl
      have s1' := slot' s1
      clear hfr hdep
      refine if_wanted (wanted_yes rfl rfl rfl sg) (fun Q => op_any (fun K hK => ?_))
      go_simp
      exact hK _ _ rfl hJ (Below.refl _ _)
    · intro ac wd hJ hfr hdep
      have sg : ac.tmps.getD 94 undef = .bool true := hdep 17 _ 94 (by decide) rfl rfl
      have s102 : ac.tmps.getD 102 undef = .pointer (some ⟨X, 0, none⟩) := hdep 25 _ 102 (by decide) rfl rfl
      have s102' := slot' s102
      clear hfr hdep
      refine if_wanted (wanted_yes rfl rfl rfl sg) (fun Q => op_any (fun K hK => ?_))
      go_simp
      exact hK _ _ rfl hJ (Below.refl _ _)
    · intro ac wd hJ hfr hdep
      have sg : ac.tmps.getD 94 undef = .bool true := hdep 17 _ 94 (by decide) rfl rfl
      have s103 : ac.tmps.getD 103 undef = .pointer (some ⟨X, 0, none⟩) := hdep 26 _ 103 (by decide) rfl rfl
      have s103' := slot' s103
      clear hfr hdep
      refine if_wanted (wanted_yes rfl rfl rfl sg) (fun Q => op_any (fun K hK => ?_))
      go_simp
      exact hK _ _ rfl hJ (Below.refl _ _)
    · intro ac wd hJ hfr hdep
      have sg : ac.tmps.getD 94 undef = .bool true := hdep 17 _ 94 (by decide) rfl rfl
      have s104 : ac.tmps.getD 104 undef = .pointer (some ⟨X, 1, none⟩) := hdep 27 _ 104 (by decide) rfl rfl
      have s104' := slot' s104
      clear hfr hdep
      refine if_wanted (wanted_yes rfl rfl rfl sg) (fun Q => op_any (fun K hK => ?_))
      have hx := HC1.out wd hJ
      go_simp
      exact hK _ _ rfl hJ (Below.refl _ _)
    · intro ac wd hJ hfr hdep
      have sg : ac.tmps.getD 94 undef = .bool true := hdep 17 _ 94 (by decide) rfl rfl
      have s101 : ac.tmps.getD 101 undef = .int .i64 (8 * l.length : Nat) := hdep 24 _ 101 (by decide) rfl rfl
      have s105 : ac.tmps.getD 105 undef = .int .i64 (T : Int) := hdep 28 _ 105 (by decide) rfl rfl
      have s101' := slot' s101
      have s105' := slot' s105
      clear hfr hdep
      refine if_wanted (wanted_yes rfl rfl rfl sg) (fun Q => op_any (fun K hK => ?_))
      go_simp
      exact hK _ _ rfl hJ (Below.refl _ _)
    · intro ac wd hJ hfr hdep
      have sg : ac.tmps.getD 94 undef = .bool true := hdep 17 _ 94 (by decide) rfl rfl
      have s96 : ac.tmps.getD 96 undef = .int .i64 (8 * (l.length : Int) - (T : Int)) := hdep 19 _ 96 (by decide) rfl rfl
      have s106 : ac.tmps.getD 106 undef = .int .i64 (8 * (l.length : Int) - (T : Int)) := hdep 29 _ 106 (by decide) rfl rfl
      have s96' := slot' s96
      have s106' := slot' s106
      clear hfr hdep
      refine if_wanted (wanted_yes rfl rfl rfl sg) (fun Q => op_any (fun K hK => ?_))
      go_simp
      exact hK _ _ rfl hJ (Below.refl _ _)
    · intro ac wd hJ hfr hdep
      have s94 : ac.tmps.getD 94 undef = .bool true := hdep 17 _ 94 (by decide) rfl rfl
      have s107 : ac.tmps.getD 107 undef = .bool true := hdep 30 _ 107 (by decide) rfl rfl
      have s94' := slot' s94
      have s107' := slot' s107
      clear hfr hdep
      refine if_wanted rfl (fun Q => op_any (fun K hK => ?_))
      go_simp
      exact hK _ _ rfl hJ (Below.refl _ _)
    · intro ac wd hJ hfr hdep
      have s108 : ac.tmps.getD 108 undef = .bool true := hdep 31 _ 108 (by decide) rfl rfl
      have s108' := slot' s108
      clear hfr hdep
      refine if_wanted rfl (fun Q => op_any (fun K hK => ?_))
      go_simp
      exact hK _ _ rfl hJ (Below.refl _ _)
    intro f w' hJ hR
    have e0 : f 0 = .int .i64 V := hR 0 (by decide)
    have e1 : f 1 = .int .i64 V := hR 1 (by decide)
    have e2 : f 2 = .bool true := hR 2 (by decide)
    have e3 : f 3 = .bool true := hR 3 (by decide)
    have e4 : f 4 = .int .i64 E := hR 4 (by decide)
    have e5 : f 5 = .int .i64 E := hR 5 (by decide)
    have e6 : f 6 = .bool true := hR 6 (by decide)
    have e7 : f 7 = .bool true := hR 7 (by decide)
    have e8 : f 8 = .bool true := hR 8 (by decide)
    have e9 : f 9 = .pointer (some ⟨R, 0, none⟩) := hR 9 (by decide)
    have e10 : f 10 = .int .i64 (T : Int) := hR 10 (by decide)
    have e11 : f 11 = .pointer (some ⟨X, 0, none⟩) := hR 11 (by decide)
    have e12 : f 12 = .pointer (some ⟨X, 0, none⟩) := hR 12 (by decide)
    have e13 : f 13 = .pointer (some ⟨X, 1, none⟩) := hR 13 (by decide)
    have e14 : f 14 = .int .i64 (T : Int) := hR 14 (by decide)
    have e15 : f 15 = .bool true := hR 15 (by decide)
    have e16 : f 16 = .bool true := hR 16 (by decide)
    have e17 : f 17 = .bool true := hR 17 (by decide)
    have e18 : f 18 = .pointer (some ⟨R, 0, none⟩) := hR 18 (by decide)
    have e19 : f 19 = .int .i64 (8 * (l.length : Int) - (T : Int)) := hR 19 (by decide)
    have e20 : f 20 = .pointer (some ⟨X, 0, none⟩) := hR 20 (by decide)
    have e21 : f 21 = .pointer (some ⟨X, 0, none⟩) := hR 21 (by decide)
    have e22 : f 22 = .pointer (some ⟨X, 0, none⟩) := hR 22 (by decide)
    have e23 : f 23 = .slice A2 (8 * l.length) c2 := hR 23 (by decide)
    have e24 : f 24 = .int .i64 (8 * l.length : Nat) := hR 24 (by decide)
    have e25 : f 25 = .pointer (some ⟨X, 0, none⟩) := hR 25 (by decide)
    have e26 : f 26 = .pointer (some ⟨X, 0, none⟩) := hR 26 (by decide)
    have e27 : f 27 = .pointer (some ⟨X, 1, none⟩) := hR 27 (by decide)
    have e28 : f 28 = .int .i64 (T : Int) := hR 28 (by decide)
    have e29 : f 29 = .int .i64 (8 * (l.length : Int) - (T : Int)) := hR 29 (by decide)
    have e30 : f 30 = .bool true := hR 30 (by decide)
    have e31 : f 31 = .bool true := hR 31 (by decide)
    have e32 : f 32 = .bool true := hR 32 (by decide)
    clear hR
    simp only [finA, Act.put, List.setIfInBounds_toArray, List.set_cons_succ, List.set_cons_zero, Nat.reduceAdd, e0, e1, e2, e3, e4, e5, e6, e7, e8, e9, e10, e11, e12, e13, e14, e15, e16, e17, e18, e19, e20, e21, e22, e23, e24, e25, e26, e27, e28, e29, e30, e31, e32]
    clear e0 e1 e2 e3 e4 e5 e6 e7 e8 e9 e10 e11 e12 e13 e14 e15 e16 e17 e18 e19 e20 e21 e22 e23 e24 e25 e26 e27 e28 e29 e30 e31 e32
    have hend : DoesPost R X A A2 l c c2 w (.returned (.bool true)) w' := HD.out _ hJ
    go_wp2_with fail
    go_ret
    exact hend
  have hb3 : (a == 3) = false := by rw [beq_eq_false_iff_ne]; exact ha3
  clear K0 K1 K2 K3
  have hcast : (((8 * l.length : Nat)) : Int) = 8 * (l.length : Int) := by omega
  go_wp2_with fail
  refine (Seek_any R t A l c n _ (HR0.out _)).mono ?_
  rintro e w8 ⟨rfl, hR8, f8⟩
  have hX8 := (HX0.out _).keep f8 hXR HAR.out
  have hq1 := f8.cell hO1.out (fun e => hBR e)
  clear HX0 HR0 hO1
  have HB8 := Lib.hid (RSeek_any X t A2 _ c2 n w8 hX8)
  try rw [bitL_length] at HB8
  rw [hcast] at HB8
  generalize (if n < 0 ∨ 8 * (l.length : Int) < n then t else n.toNat) = T at *; generalize (if n < 0 ∨ 8 * (l.length : Int) < n then (10 : Int) else 0) = E at *; clear hcast
  go_wp2_with fail
  refine HB8.out.mono ?_
  rintro e w9 ⟨rfl, hX9, f9⟩
  have hR9 := hR8.keep f9 (fun e => hXR e.symm) HAX.out
  have HF9 : Hid (Fr (fun k => k = R ∨ k = X) w w9) := ((Fr.of (bal (Below.refl _ _) _)).trans (f8.wide (fun k h => .inl h))).trans (f9.wide (fun k h => .inr h))
  clear HB8 hX8 hR8 f8 f9
  try clear hq1
  have HAt := Lib.hid (fun W (hW : Below w9.heap.size w9 W) => At_any R T A l.length c W (hR9.below hW).row)
  have HLf := Lib.hid (fun W (hW : Below w9.heap.size w9 W) => Left_any R T A l.length c W (hR9.below hW).row hR9.le (by omega))
  have HC0 : Hid (∀ W, Below w9.heap.size w9 W → W.cell? ⟨X, 0, none⟩ = some (.slice A2 (8 * l.length) c2)) := fun W hW => by have := (hX9.below hW).c0; rw [bitL_length] at this; exact this
  have HC1 : Hid (∀ W, Below w9.heap.size w9 W → W.cell? ⟨X, 1, none⟩ = some (.int .i64 (T : Int))) := fun W hW => (hX9.below hW).c1
  have HD : Hid (∀ W, Below w9.heap.size w9 W → DoesPost R X A A2 l c c2 w (.returned (.bool true)) W) := fun W hW => ⟨rfl, T, hR9.below hW, hX9.below hW, HF9.out.trans (Fr.of hW)⟩
  have hTl := hR9.le
  have e1 : IntKind.i64.wrap (8 * (l.length : Int) - (T : Int)) = 8 * (l.length : Int) - (T : Int) := by rw [IntKind.wrap_i64]; omega
  clear hR9 hX9 hTl
  go_wp2_with fail
  refine wp_region_specs [
    Spec.val (.int .i64 0),
    Spec.val (.int .i64 0),
    Spec.val (.bool true),
    Spec.val (.bool true),
    Spec.val (.int .i64 E),
    Spec.val (.int .i64 E),
    Spec.val (.bool true),
    Spec.val (.bool true),
    Spec.val (.bool true),
    Spec.val (.pointer (some ⟨R, 0, none⟩)),
    Spec.val (.int .i64 (T : Int)),
    Spec.val (.pointer (some ⟨X, 0, none⟩)),
    Spec.val (.pointer (some ⟨X, 0, none⟩)),
    Spec.val (.pointer (some ⟨X, 1, none⟩)),
    Spec.val (.int .i64 (T : Int)),
    Spec.val (.bool true),
    Spec.val (.bool true),
    Spec.val (.bool true),
    Spec.val (.pointer (some ⟨R, 0, none⟩)),
    Spec.val (.int .i64 (8 * (l.length : Int) - (T : Int))),
    Spec.val (.pointer (some ⟨X, 0, none⟩)),
    Spec.val (.pointer (some ⟨X, 0, none⟩)),
    Spec.val (.pointer (some ⟨X, 0, none⟩)),
    Spec.val (.slice A2 (8 * l.length) c2),
    Spec.val (.int .i64 (8 * l.length : Nat)),
    Spec.val (.pointer (some ⟨X, 0, none⟩)),
    Spec.val (.pointer (some ⟨X, 0, none⟩)),
    Spec.val (.pointer (some ⟨X, 1, none⟩)),
    Spec.val (.int .i64 (T : Int)),
    Spec.val (.int .i64 (8 * (l.length : Int) - (T : Int))),
    Spec.val (.bool true),
    Spec.val (.bool true),
    Spec.val (.bool true)] w9 (by kernel_rfl) (by repeat (first | exact Below.refl _ _ | assumption | refine below_drewN ?_ _ | refine Below.drew ?_ | refine Below.alloc ?_ (Nat.le_refl _) _ | refine bal ?_ _ | refine bnext ?_ (by assumption))) (n := 109) rfl (by decide +kernel) ⟨?_, ?_, ?_, ?_, ?_, ?_, ?_, ?_, ?_, ?_, ?_, ?_, ?_, ?_, ?_, ?_, ?_, ?_, ?_, ?_, ?_, ?_, ?_, ?_, ?_, ?_, ?_, ?_, ?_, ?_, ?_, ?_, ?_, trivial⟩ ?_
  · intro ac wd hJ hfr hdep
    have s7 : ac.tmps.getD 7 undef = .int .i64 0 := (hfr 7 (by decide)).trans rfl
    have s7' := slot' s7
    clear hfr hdep
    refine if_wanted rfl (fun Q => op_any (fun K hK => ?_))
    go_simp
    exact hK _ _ rfl hJ (Below.refl _ _)
  · intro ac wd hJ hfr hdep
    have s8 : ac.tmps.getD 8 undef = .int .i64 0 := (hfr 8 (by decide)).trans rfl
    have s8' := slot' s8
    clear hfr hdep
    refine if_wanted rfl (fun Q => op_any (fun K hK => ?_))
    go_simp
    exact hK _ _ rfl hJ (Below.refl _ _)
  · intro ac wd hJ hfr hdep
    have s77 : ac.tmps.getD 77 undef = .int .i64 0 := hdep 0 _ 77 (by decide) rfl rfl
    have s78 : ac.tmps.getD 78 undef = .int .i64 0 := hdep 1 _ 78 (by decide) rfl rfl
    have s77' := slot' s77
    have s78' := slot' s78
    clear hfr hdep
    refine if_wanted rfl (fun Q => op_any (fun K hK => ?_))
    go_simp
    exact hK _ _ rfl hJ (Below.refl _ _)
  · intro ac wd hJ hfr hdep
    have s79 : ac.tmps.getD 79 undef = .bool true := hdep 2 _ 79 (by decide) rfl rfl
    have s79' := slot' s79
    clear hfr hdep
    refine if_wanted rfl (fun Q => op_any (fun K hK => ?_))
    go_simp
    exact hK _ _ rfl hJ (Below.refl _ _)
  · intro ac wd hJ hfr hdep
    have sg : ac.tmps.getD 80 undef = .bool true := hdep 3 _ 80 (by decide) rfl rfl
    have s9 : ac.tmps.getD 9 undef = .int .i64 E := (hfr 9 (by decide)).trans rfl
    have s9' := slot' s9
    clear hfr hdep
    refine if_wanted (wanted_yes rfl rfl rfl sg) (fun Q => op_any (fun K hK => ?_))
    go_simp
    exact hK _ _ rfl hJ (Below.refl _ _)
  · intro ac wd hJ hfr hdep
    have sg : ac.tmps.getD 80 undef = .bool true := hdep 3 _ 80 (by decide) rfl rfl
    have s10 : ac.tmps.getD 10 undef = .int .i64 E := (hfr 10 (by decide)).trans rfl
    have s10' := slot' s10
    clear hfr hdep
    refine if_wanted (wanted_yes rfl rfl rfl sg) (fun Q => op_any (fun K hK => ?_))
    go_simp
    exact hK _ _ rfl hJ (Below.refl _ _)
  · intro ac wd hJ hfr hdep
    have sg : ac.tmps.getD 80 undef = .bool true := hdep 3 _ 80 (by decide) rfl rfl
    have s81 : ac.tmps.getD 81 undef = .int .i64 E := hdep 4 _ 81 (by decide) rfl rfl
    have s82 : ac.tmps.getD 82 undef = .int .i64 E := hdep 5 _ 82 (by decide) rfl rfl
    have s81' := slot' s81
    have s82' := slot' s82
    clear hfr hdep
    refine if_wanted (wanted_yes rfl rfl rfl sg) (fun Q => op_any (fun K hK => ?_))
    go_simp
    exact hK _ _ rfl hJ (Below.refl _ _)
  · intro ac wd hJ hfr hdep
    have s80 : ac.tmps.getD 80 undef = .bool true := hdep 3 _ 80 (by decide) rfl rfl
    have s83 : ac.tmps.getD 83 undef = .bool true := hdep 6 _ 83 (by decide) rfl rfl
    have s80' := slot' s80
    have s83' := slot' s83
    clear hfr hdep
    refine if_wanted rfl (fun Q => op_any (fun K hK => ?_))
    go_simp
    exact hK _ _ rfl hJ (Below.refl _ _)
  · intro ac wd hJ hfr hdep
    have s84 : ac.tmps.getD 84 undef = .bool true := hdep 7 _ 84 (by decide) rfl rfl
    have s84' := slot' s84
    clear hfr hdep
    refine if_wanted rfl (fun Q => op_any (fun K hK => ?_))
    go_simp
    exact hK _ _ rfl hJ (Below.refl _ _)
  · intro ac wd hJ hfr hdep
    have sg : ac.tmps.getD 85 undef = .bool true := hdep 8 _ 85 (by decide) rfl rfl
    have s0 : ac.tmps.getD 0 undef = .pointer (some ⟨R, 0, none⟩) := (hfr 0 (by decide)).trans rfl
    have s0' := slot' s0
    clear hfr hdep
    refine if_wanted (wanted_yes rfl rfl rfl sg) (fun Q => op_any (fun K hK => ?_))
    go_simp
    exact hK _ _ rfl hJ (Below.refl _ _)
  · intro ac wd hJ hfr hdep
    have sg : ac.tmps.getD 85 undef = .bool true := hdep 8 _ 85 (by decide) rfl rfl
    have s86 : ac.tmps.getD 86 undef = .pointer (some ⟨R, 0, none⟩) := hdep 9 _ 86 (by decide) rfl rfl
    have s86' := slot' s86
    clear hfr hdep
    refine if_wanted (wanted_yes rfl rfl rfl sg) (fun Q => op_any (fun K hK => ?_))
    go_simp
    refine (HAt.out _ hJ).mono ?_
    rintro e w1 ⟨rfl, hb1⟩
    exact hK _ _ rfl (bnext hJ hb1) hb1
  · intro ac wd hJ hfr hdep
    have sg : ac.tmps.getD 85 undef = .bool true := hdep 8 _ 85 (by decide) rfl rfl
    have s1 : ac.tmps.getD 1 undef = .pointer (some ⟨X, 0, none⟩) := (hfr 1 (by decide)).trans rfl
    have s1' := slot' s1
    clear hfr hdep
    refine if_wanted (wanted_yes rfl rfl rfl sg) (fun Q => op_any (fun K hK => ?_))
    go_simp
    exact hK _ _ rfl hJ (Below.refl _ _)
  · intro ac wd hJ hfr hdep
    have sg : ac.tmps.getD 85 undef = .bool true := hdep 8 _ 85 (by decide) rfl rfl
    have s88 : ac.tmps.getD 88 undef = .pointer (some ⟨X, 0, none⟩) := hdep 11 _ 88 (by decide) rfl rfl
    have s88' := slot' s88
    clear hfr hdep
    refine if_wanted (wanted_yes rfl rfl rfl sg) (fun Q => op_any (fun K hK => ?_))
    go_simp
    exact hK _ _ rfl hJ (Below.refl _ _)
  · intro ac wd hJ hfr hdep
    have sg : ac.tmps.getD 85 undef = .bool true := hdep 8 _ 85 (by decide) rfl rfl
    have s89 : ac.tmps.getD 89 undef = .pointer (some ⟨X, 0, none⟩) := hdep 12 _ 89 (by decide) rfl rfl
    have s89' := slot' s89
    clear hfr hdep
    refine if_wanted (wanted_yes rfl rfl rfl sg) (fun Q => op_any (fun K hK => ?_))
    go_simp
    exact hK _ _ rfl hJ (Below.refl _ _)
  · intro ac wd hJ hfr hdep
    have sg : ac.tmps.getD 85 undef = .bool true := hdep 8 _ 85 (by decide) rfl rfl
    have s90 : ac.tmps.getD 90 undef = .pointer (some ⟨X, 1, none⟩) := hdep 13 _ 90 (by decide) rfl rfl
    have s90' := slot' s90
    clear hfr hdep
    refine if_wanted (wanted_yes rfl rfl rfl sg) (fun Q => op_any (fun K hK => ?_))
    have hx := HC1.out wd hJ
    go_simp
    exact hK _ _ rfl hJ (Below.refl _ _)
  · intro ac wd hJ hfr hdep
    have sg : ac.tmps.getD 85 undef = .bool true := hdep 8 _ 85 (by decide) rfl rfl
    have s87 : ac.tmps.getD 87 undef = .int .i64 (T : Int) := hdep 10 _ 87 (by decide) rfl rfl
    have s91 : ac.tmps.getD 91 undef = .int .i64 (T : Int) := hdep 14 _ 91 (by decide) rfl rfl
    have s87' := slot' s87
    have s91' := slot' s91
    clear hfr hdep
    refine if_wanted (wanted_yes rfl rfl rfl sg) (fun Q => op_any (fun K hK => ?_))
    go_simp
    exact hK _ _ rfl hJ (Below.refl _ _)
  · intro ac wd hJ hfr hdep
    have s85 : ac.tmps.getD 85 undef = .bool true := hdep 8 _ 85 (by decide) rfl rfl
    have s92 : ac.tmps.getD 92 undef = .bool true := hdep 15 _ 92 (by decide) rfl rfl
    have s85' := slot' s85
    have s92' := slot' s92
    clear hfr hdep
    refine if_wanted rfl (fun Q => op_any (fun K hK => ?_))
    go_simp
    exact hK _ _ rfl hJ (Below.refl _ _)
  · intro ac wd hJ hfr hdep
    have s93 : ac.tmps.getD 93 undef = .bool true := hdep 16 _ 93 (by decide) rfl rfl
    have s93' := slot' s93
    clear hfr hdep
    refine if_wanted rfl (fun Q => op_any (fun K hK => ?_))
    go_simp
    exact hK _ _ rfl hJ (Below.refl _ _)
  · intro ac wd hJ hfr hdep
    have sg : ac.tmps.getD 94 undef = .bool true := hdep 17 _ 94 (by decide) rfl rfl
    have s0 : ac.tmps.getD 0 undef = .pointer (some ⟨R, 0, none⟩) := (hfr 0 (by decide)).trans rfl
    have s0' := slot' s0
    clear hfr hdep
    refine if_wanted (wanted_yes rfl rfl rfl sg) (fun Q => op_any (fun K hK => ?_))
    go_simp
    exact hK _ _ rfl hJ (Below.refl _ _)
  · intro ac wd hJ hfr hdep
    have sg : ac.tmps.getD 94 undef = .bool true := hdep 17 _ 94 (by decide) rfl rfl
    have s95 : ac.tmps.getD 95 undef = .pointer (some ⟨R, 0, none⟩) := hdep 18 _ 95 (by decide) rfl rfl
    have s95' := slot' s95
    clear hfr hdep
    refine if_wanted (wanted_yes rfl rfl rfl sg) (fun Q => op_any (fun K hK => ?_))
    go_simp
    refine (HLf.out _ hJ).mono ?_
    rintro e w1 ⟨rfl, hb1⟩
    exact hK _ _ rfl (bnext hJ hb1) hb1
  · intro ac wd hJ hfr hdep
    have sg : ac.tmps.getD 94 undef = .bool true := hdep 17 _ 94 (by decide) rfl rfl
    have s1 : ac.tmps.getD 1 undef = .pointer (some ⟨X, 0, none⟩) := (hfr 1 (by decide)).trans rfl
    have s1' := slot' s1
    clear hfr hdep
    refine if_wanted (wanted_yes rfl rfl rfl sg) (fun Q => op_any (fun K hK => ?_))
    go_simp
    exact hK _ _ rfl hJ (Below.refl _ _)
  · intro ac wd hJ hfr hdep
    have sg : ac.tmps.getD 94 undef = .bool true := hdep 17 _ 94 (by decide) rfl rfl
    have s97 : ac.tmps.getD 97 undef = .pointer (some ⟨X, 0, none⟩) := hdep 20 _ 97 (by decide) rfl rfl
    have s97' := slot' s97
    clear hfr hdep
    refine if_wanted (wanted_yes rfl rfl rfl sg) (fun Q => op_any (fun K hK => ?_))
    go_simp
    exact hK _ _ rfl hJ (Below.refl _ _)
  · intro ac wd hJ hfr hdep
    have sg : ac.tmps.getD 94 undef = .bool true := hdep 17 _ 94 (by decide) rfl rfl
    have s98 : ac.tmps.getD 98 undef = .pointer (some ⟨X, 0, none⟩) := hdep 21 _ 98 (by decide) rfl rfl
    have s98' := slot' s98
    clear hfr hdep
    refine if_wanted (wanted_yes rfl rfl rfl sg) (fun Q => op_any (fun K hK => ?_))
    go_simp
    exact hK _ _ rfl hJ (Below.refl _ _)
  · intro ac wd hJ hfr hdep
    have sg : ac.tmps.getD 94 undef = .bool true := hdep 17 _ 94 (by decide) rfl rfl
    have s99 : ac.tmps.getD 99 undef = .pointer (some ⟨X, 0, none⟩) := hdep 22 _ 99 (by decide) rfl rfl
    have s99' := slot' s99
    clear hfr hdep
    refine if_wanted (wanted_yes rfl rfl rfl sg) (fun Q => op_any (fun K hK => ?_))
    have hx := HC0.out wd hJ
    go_simp
    exact hK _ _ rfl hJ (Below.refl _ _)
  · intro ac wd hJ hfr hdep
    have sg : ac.tmps.getD 94 undef = .bool true := hdep 17 _ 94 (by decide) rfl rfl
    have s100 : ac.tmps.getD 100 undef = .slice A2 (8 * l.length) c2 := hdep 23 _ 100 (by decide) rfl rfl
    have s100' := slot' s100
    clear hfr hdep
    refine if_wanted (wanted_yes rfl rfl rfl sg) (fun Q => op_any (fun K hK => ?_))
    go_simp
    exact hK _ _ rfl hJ (Below.refl _ _)
  · intro ac wd hJ hfr hdep
    have sg : ac.tmps.getD 94 undef = .bool true := hdep 17 _ 94 (by decide) rfl rfl
    have s1 : ac.tmps.getD 1 undef = .pointer (some ⟨X, 0, none⟩) := (hfr 1 (by decide)).trans rfl
    have s1' := slot' s1
    clear hfr hdep
    refine if_wanted (wanted_yes rfl rfl rfl sg) (fun Q => op_any (fun K hK => ?_))
    go_simp
    exact hK _ _ rfl hJ (Below.refl _ _)
  · intro ac wd hJ hfr hdep
    have sg : ac.tmps.getD 94 undef = .bool true := hdep 17 _ 94 (by decide) rfl rfl
    have s102 : ac.tmps.getD 102 undef = .pointer (some ⟨X, 0, none⟩) := hdep 25 _ 102 (by decide) rfl rfl
    have s102' := slot' s102
    clear hfr hdep
    refine if_wanted (wanted_yes rfl rfl rfl sg) (fun Q => op_any (fun K hK => ?_))
    go_simp
    exact hK _ _ rfl hJ (Below.refl _ _)
  · intro ac wd hJ hfr hdep
    have sg : ac.tmps.getD 94 undef = .bool true := hdep 17 _ 94 (by decide) rfl rfl
    have s103 : ac.tmps.getD 103 undef = .pointer (some ⟨X, 0, none⟩) := hdep 26 _ 103 (by decide) rfl rfl
    have s103' := slot' s103
    clear hfr hdep
    refine if_wanted (wanted_yes rfl rfl rfl sg) (fun Q => op_any (fun K hK => ?_))
    go_simp
    exact hK _ _ rfl hJ (Below.refl _ _)
  · intro ac wd hJ hfr hdep
    have sg : ac.tmps.getD 94 undef = .bool true := hdep 17 _ 94 (by decide) rfl rfl
    have s104 : ac.tmps.getD 104 undef = .pointer (some ⟨X, 1, none⟩) := hdep 27 _ 104 (by decide) rfl rfl
    have s104' := slot' s104
    clear hfr hdep
    refine if_wanted (wanted_yes rfl rfl rfl sg) (fun Q => op_any (fun K hK => ?_))
    have hx := HC1.out wd hJ
    go_simp
    exact hK _ _ rfl hJ (Below.refl _ _)
  · intro ac wd hJ hfr hdep
    have sg : ac.tmps.getD 94 undef = .bool true := hdep 17 _ 94 (by decide) rfl rfl
    have s101 : ac.tmps.getD 101 undef = .int .i64 (8 * l.length : Nat) := hdep 24 _ 101 (by decide) rfl rfl
    have s105 : ac.tmps.getD 105 undef = .int .i64 (T : Int) := hdep 28 _ 105 (by decide) rfl rfl
    have s101' := slot' s101
    have s105' := slot' s105
    clear hfr hdep
    refine if_wanted (wanted_yes rfl rfl rfl sg) (fun Q => op_any (fun K hK => ?_))
    go_simp
    exact hK _ _ rfl hJ (Below.refl _ _)
  · intro ac wd hJ hfr hdep
    have sg : ac.tmps.getD 94 undef = .bool true := hdep 17 _ 94 (by decide) rfl rfl
    have s96 : ac.tmps.getD 96 undef = .int .i64 (8 * (l.length : Int) - (T : Int)) := hdep 19 _ 96 (by decide) rfl rfl
    have s106 : ac.tmps.getD 106 undef = .int .i64 (8 * (l.length : Int) - (T : Int)) := hdep 29 _ 106 (by decide) rfl rfl
    have s96' := slot' s96
    have s106' := slot' s106
    clear hfr hdep
    refine if_wanted (wanted_yes rfl rfl rfl sg) (fun Q => op_any (fun K hK => ?_))
    go_simp
    exact hK _ _ rfl hJ (Below.refl _ _)
  · intro ac wd hJ hfr hdep
    have s94 : ac.tmps.getD 94 undef = .bool true := hdep 17 _ 94 (by decide) rfl rfl
    have s107 : ac.tmps.getD 107 undef = .bool true := hdep 30 _ 107 (by decide) rfl rfl
    have s94' := slot' s94
    have s107' := slot' s107
    clear hfr hdep
    refine if_wanted rfl (fun Q => op_any (fun K hK => ?_))
    go_simp
    exact hK _ _ rfl hJ (Below.refl _ _)
  · intro ac wd hJ hfr hdep
    have s108 : ac.tmps.getD 108 undef = .bool true := hdep 31 _ 108 (by decide) rfl rfl
    have s108' := slot' s108
    clear hfr hdep
    refine if_wanted rfl (fun Q => op_any (fun K hK => ?_))
    go_simp
    exact hK _ _ rfl hJ (Below.refl _ _)
  intro f w' hJ hR
  have e0 : f 0 = .int .i64 0 := hR 0 (by decide)
  have e1 : f 1 = .int .i64 0 := hR 1 (by decide)
  have e2 : f 2 = .bool true := hR 2 (by decide)
  have e3 : f 3 = .bool true := hR 3 (by decide)
  have e4 : f 4 = .int .i64 E := hR 4 (by decide)
  have e5 : f 5 = .int .i64 E := hR 5 (by decide)
  have e6 : f 6 = .bool true := hR 6 (by decide)
  have e7 : f 7 = .bool true := hR 7 (by decide)
  have e8 : f 8 = .bool true := hR 8 (by decide)
  have e9 : f 9 = .pointer (some ⟨R, 0, none⟩) := hR 9 (by decide)
  have e10 : f 10 = .int .i64 (T : Int) := hR 10 (by decide)
  have e11 : f 11 = .pointer (some ⟨X, 0, none⟩) := hR 11 (by decide)
  have e12 : f 12 = .pointer (some ⟨X, 0, none⟩) := hR 12 (by decide)
  have e13 : f 13 = .pointer (some ⟨X, 1, none⟩) := hR 13 (by decide)
  have e14 : f 14 = .int .i64 (T : Int) := hR 14 (by decide)
  have e15 : f 15 = .bool true := hR 15 (by decide)
  have e16 : f 16 = .bool true := hR 16 (by decide)
  have e17 : f 17 = .bool true := hR 17 (by decide)
  have e18 : f 18 = .pointer (some ⟨R, 0, none⟩) := hR 18 (by decide)
  have e19 : f 19 = .int .i64 (8 * (l.length : Int) - (T : Int)) := hR 19 (by decide)
  have e20 : f 20 = .pointer (some ⟨X, 0, none⟩) := hR 20 (by decide)
  have e21 : f 21 = .pointer (some ⟨X, 0, none⟩) := hR 21 (by decide)
  have e22 : f 22 = .pointer (some ⟨X, 0, none⟩) := hR 22 (by decide)
  have e23 : f 23 = .slice A2 (8 * l.length) c2 := hR 23 (by decide)
  have e24 : f 24 = .int .i64 (8 * l.length : Nat) := hR 24 (by decide)
  have e25 : f 25 = .pointer (some ⟨X, 0, none⟩) := hR 25 (by decide)
  have e26 : f 26 = .pointer (some ⟨X, 0, none⟩) := hR 26 (by decide)
  have e27 : f 27 = .pointer (some ⟨X, 1, none⟩) := hR 27 (by decide)
  have e28 : f 28 = .int .i64 (T : Int) := hR 28 (by decide)
  have e29 : f 29 = .int .i64 (8 * (l.length : Int) - (T : Int)) := hR 29 (by decide)
  have e30 : f 30 = .bool true := hR 30 (by decide)
  have e31 : f 31 = .bool true := hR 31 (by decide)
  have e32 : f 32 = .bool true := hR 32 (by decide)
  clear hR
  simp only [finA, Act.put, List.setIfInBounds_toArray, List.set_cons_succ, List.set_cons_zero, Nat.reduceAdd, e0, e1, e2, e3, e4, e5, e6, e7, e8, e9, e10, e11, e12, e13, e14, e15, e16, e17, e18, e19, e20, e21, e22, e23, e24, e25, e26, e27, e28, e29, e30, e31, e32]
  clear e0 e1 e2 e3 e4 e5 e6 e7 e8 e9 e10 e11 e12 e13 e14 e15 e16 e17 e18 e19 e20 e21 e22 e23 e24 e25 e26 e27 e28 e29 e30 e31 e32
  have hend : DoesPost R X A A2 l c c2 w (.returned (.bool true)) w' := HD.out _ hJ
  go_wp2_with fail
  go_ret
  exact hend
end Go.Proofs.Ytfncmgojeaeihaa
