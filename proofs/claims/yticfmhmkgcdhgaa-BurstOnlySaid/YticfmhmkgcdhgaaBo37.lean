/-
  jetsamlaw18.BurstOnly: its walk.
-/
import Derived.Test.YticfmhmkgcdhgaaBo36
set_option linter.unusedSimpArgs false
set_option linter.unusedVariables false
namespace Go.Proofs.Yticfmhmkgcdhgaa
open Go.RowKit

set_option maxRecDepth 1000000 in
set_option maxHeartbeats 4000000 in
theorem boList (f : Nat) (hf : okFs f) (bs : List UInt8) (A : Option Addr) (c : Nat) (most : Int) (hl : bs.length ≤ 60) (w : World) (HR : Hid (Rd w A (bv bs))) (Hn : Hid (A = none → bs.length = 0 ∧ c = 0))
    (u2 u3 u4 u5 u6 u8 u9 u10 u11 u12 u13 u14 u15 u16 u17 u18 u19 u20 u21 u22 u23 u24 u25 u26 u27 u28 u29 u30 u31 u32 u33 u34 u35 u36 u37 u38 u39 u40 u41 u42 u43 u44 u45 u46 u47 u48 u49 u50 u51 u52 u53 u54 u55 u56 u57 u58 u59 u60 u61 u62 u63 u64 u65 u66 u67 u68 u69 u70 u71 u72 u73 u74 u75 u76 u77 u78 u79 u80 u81 u82 u83 u84 u85 u86 u87 u88 u89 u90 u91 u92 u93 u94 u95 u96 u97 u98 u99 u100 u101 u102 u103 u104 u105 u106 u107 u108 u109 u110 u111 u112 u113 u114 u115 u116 u117 u118 u119 u120 u121 u122 u123 u124 u125 u126 u127 : Value) :
    Code.wp Try.prog (cdrC 5 boBody) (bodyPost Try.prog Try.f8 fun e w' => e = .returned (.bool true) ∧ Below w.heap.size w w') ⟨#[.slice A bs.length c, .int .i64 most, u2, u3, u4, u5, u6, .func (.func f) #[] #[], u8, u9, u10, u11, u12, u13, u14, u15, u16, u17, u18, u19, u20, u21, u22, u23, u24, u25, u26, u27, u28, u29, u30, u31, u32, u33, u34, u35, u36, u37, u38, u39, u40, u41, u42, u43, u44, u45, u46, u47, u48, u49, u50, u51, u52, u53, u54, u55, u56, u57, u58, u59, u60, u61, u62, u63, u64, u65, u66, u67, u68, u69, u70, u71, u72, u73, u74, u75, u76, u77, u78, u79, u80, u81, u82, u83, u84, u85, u86, u87, u88, u89, u90, u91, u92, u93, u94, u95, u96, u97, u98, u99, u100, u101, u102, u103, u104, u105, u106, u107, u108, u109, u110, u111, u112, u113, u114, u115, u116, u117, u118, u119, u120, u121, u122, u123, u124, u125, u126, u127], []⟩ w := by
  conv => arg 2; whnf
  have HL := Lib.hid (listedB bs A c most w HR.out (by omega) Hn.out)
  go_wp2_with fail
  refine HL.out.mono ?_
  rintro e w1 ⟨A8, c8, rfl, HRB, hb1⟩
  have HB1 := Lib.hid hb1
  have HW : Hid (Blk (w1.alloc (.cells #[.int .i64 0, .int .i64 0, .int .i64 0] 28)) w1.heap.size 28 zB) := heap_alloc_last w1 _
  have HBa : Hid (Below w.heap.size w (w1.alloc (.cells #[.int .i64 0, .int .i64 0, .int .i64 0] 28))) := bal hb1 _
  have HB1a : Hid (Below w1.heap.size w1 (w1.alloc (.cells #[.int .i64 0, .int .i64 0, .int .i64 0] 28))) := bal (Below.refl _ _) _
  have hsz := hb1.size
  clear hb1 HL
  go_upto_region 13 with fail
  generalize w1.alloc (.cells #[.int .i64 0, .int .i64 0, .int .i64 0] 28) = w2 at *
  go_cut [12] (fun v wx => v = .slice none 0 0 ∧ wx = w2)
  case first =>
    go_wp2_with fail
    go_meet
    exact ⟨rfl, rfl⟩
  case rest =>
    obtain ⟨rfl, rfl⟩ := hcut
    go_step
    exact boLoop f hf bs A c most hl w w1 _ w1.heap.size A8 c8 HBa HR Hn HRB HB1a hsz (Nat.le_refl _) HW _ _ _ _ _ _ _ _ _ _ _ _ _ _ _ _ _ _ _ _ _ _ _ _ _ _ _ _ _ _ _ _ _ _ _ _ _ _ _ _ _ _ _ _ _ _ _ _ _ _ _ _ _ _ _ _ _ _ _ _ _ _ _ _ _ _ _ _ _ _ _ _ _ _ _ _ _ _ _ _ _ _ _ _ _ _ _ _ _ _ _ _ _ _ _ _ _ _ _ _ _ _ _ _ _ _ _ _ _ _ _ _ _ _ _ _ _ _ _ _ _ 
set_option maxRecDepth 1000000 in
set_option maxHeartbeats 4000000 in
theorem only_walk (bs : List UInt8) (A : Option Addr) (c : Nat) (most which : Int) (w : World) (hr : Rd w A (bv bs)) (hn : A = none → bs.length = 0 ∧ c = 0) :
    Calls Try.prog 8 #[.slice A bs.length c, .int .i64 most, .int .i64 which] w fun e w' => e = .returned (.bool true) ∧ Below w.heap.size w w' := by
  have HR := Lib.hid hr
  have Hn := Lib.hid hn
  clear hr hn
  by_cases h1 : (60 : Int) < bs.length
  · go_enter Try.func8, Try.ntmps8
    go_wp2_with fail
    (refine (awake_any _).mono ?_; rintro e w9 ⟨rfl, hb9⟩; go_wp2_with fail; go_ret; exact ⟨rfl, by repeat (first | exact Below.refl _ _ | assumption | refine below_drewN ?_ _ | refine Below.drew ?_ | refine Below.alloc ?_ (Nat.le_refl _) _ | refine bal ?_ _ | refine bnext ?_ (by assumption))⟩)
  have hl : bs.length ≤ 60 := by omega
  by_cases hw1 : which = 1
  · have hw1' : (which == 1) = true := by rw [beq_iff_eq]; exact hw1
    subst hw1
    go_enter Try.func8, Try.ntmps8
    go_upto_if 29 with fail
    go_cut [7] (fun v wx => v = .func (.func 23) #[] #[] ∧ wx = w)
    case first =>
      go_wp2_with fail
      go_meet
      exact ⟨rfl, rfl⟩
    case rest =>
      obtain ⟨rfl, rfl⟩ := hcut
      go_step
      exact boList _ (.inr (.inl rfl)) bs A c most hl _ HR Hn _ _ _ _ _ _ _ _ _ _ _ _ _ _ _ _ _ _ _ _ _ _ _ _ _ _ _ _ _ _ _ _ _ _ _ _ _ _ _ _ _ _ _ _ _ _ _ _ _ _ _ _ _ _ _ _ _ _ _ _ _ _ _ _ _ _ _ _ _ _ _ _ _ _ _ _ _ _ _ _ _ _ _ _ _ _ _ _ _ _ _ _ _ _ _ _ _ _ _ _ _ _ _ _ _ _ _ _ _ _ _ _ _ _ _ _ _ _ _ _ _ _ _ _ _ 
  · by_cases hw2 : which = 2
    · subst hw2
      go_enter Try.func8, Try.ntmps8
      go_upto_if 29 with fail
      go_cut [7] (fun v wx => v = .func (.func 24) #[] #[] ∧ wx = w)
      case first =>
        go_wp2_with fail
        go_meet
        exact ⟨rfl, rfl⟩
      case rest =>
        obtain ⟨rfl, rfl⟩ := hcut
        go_step
        exact boList _ (.inr (.inr rfl)) bs A c most hl _ HR Hn _ _ _ _ _ _ _ _ _ _ _ _ _ _ _ _ _ _ _ _ _ _ _ _ _ _ _ _ _ _ _ _ _ _ _ _ _ _ _ _ _ _ _ _ _ _ _ _ _ _ _ _ _ _ _ _ _ _ _ _ _ _ _ _ _ _ _ _ _ _ _ _ _ _ _ _ _ _ _ _ _ _ _ _ _ _ _ _ _ _ _ _ _ _ _ _ _ _ _ _ _ _ _ _ _ _ _ _ _ _ _ _ _ _ _ _ _ _ _ _ _ _ _ _ _ 
    · have hw1' : (which == 1) = false := by rw [beq_eq_false_iff_ne]; exact hw1
      have hw2' : (which == 2) = false := by rw [beq_eq_false_iff_ne]; exact hw2
      clear hw1 hw2
      go_enter Try.func8, Try.ntmps8
      go_upto_if 29 with fail
      go_cut [7] (fun v wx => v = .func (.func 22) #[] #[] ∧ wx = w)
      case first =>
        go_wp2_with fail
        go_meet
        exact ⟨rfl, rfl⟩
      case rest =>
        obtain ⟨rfl, rfl⟩ := hcut
        go_step
        exact boList _ (.inl rfl) bs A c most hl _ HR Hn _ _ _ _ _ _ _ _ _ _ _ _ _ _ _ _ _ _ _ _ _ _ _ _ _ _ _ _ _ _ _ _ _ _ _ _ _ _ _ _ _ _ _ _ _ _ _ _ _ _ _ _ _ _ _ _ _ _ _ _ _ _ _ _ _ _ _ _ _ _ _ _ _ _ _ _ _ _ _ _ _ _ _ _ _ _ _ _ _ _ _ _ _ _ _ _ _ _ _ _ _ _ _ _ _ _ _ _ _ _ _ _ _ _ _ _ _ _ _ _ _ _ _ _ _ 
end Go.Proofs.Yticfmhmkgcdhgaa
