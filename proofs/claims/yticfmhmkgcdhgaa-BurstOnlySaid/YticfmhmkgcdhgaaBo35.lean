/-
  jetsamlaw18.BurstOnly: its walk, from the call of Only on.
-/
import Derived.Test.YticfmhmkgcdhgaaBo34
set_option linter.unusedSimpArgs false
set_option linter.unusedVariables false
namespace Go.Proofs.Yticfmhmkgcdhgaa
open Go.RowKit

/-- What stands behind the first statements of a sequence. -/
def cdrC : Nat → Code → Code
  | 0, c => c
  | n + 1, .seq _ b => cdrC n b
  | _ + 1, c => c
noncomputable def boBody : Code := (Try.f8.body).getD .skip

set_option maxRecDepth 1000000 in
set_option maxHeartbeats 4000000 in
theorem boTail (f : Nat) (hf : okFs f) (bs : List UInt8) (A : Option Addr) (c : Nat) (most : Int) (hl : bs.length ≤ 60) (w W : World) (Bw : Nat) (vo : Value) (HB : Hid (Below w.heap.size w W)) (HR : Hid (Rd w A (bv bs))) (Hn : Hid (A = none → bs.length = 0 ∧ c = 0))
    (HW : Hid (Blk W Bw 28 (wantC (Hs f bs (allH (8 * bs.length) (crc16 0 bs) most))))) (HO : Hid (wantO bs (Hs f bs (allH (8 * bs.length) (crc16 0 bs) most)) vo W)) (hle : (Hs f bs (allH (8 * bs.length) (crc16 0 bs) most)).length ≤ 10000)
    (u2 u3 u4 u5 u6 u8 u9 u13 u14 u15 u16 u17 u18 u19 u20 u21 u22 u23 u24 u25 u26 u27 u28 u29 u30 u31 u32 u33 u34 u35 u36 u37 u38 u39 u40 u41 u42 u43 u44 u45 u46 u47 u48 u49 u50 u51 u52 u53 u54 u55 u56 u57 u58 u59 u60 u61 u62 u63 u64 u65 u66 u67 u68 u69 u70 u71 u72 u73 u74 u75 u76 u77 u78 u79 u80 u81 u82 u83 u84 u85 u86 u87 u88 u89 u90 u91 u92 u93 u94 u95 u96 u97 u98 u99 u100 u101 u102 u103 u104 u105 u106 u107 u108 u109 u110 u111 u112 u113 u114 u115 u116 u117 u118 u119 u120 u121 u122 u123 u124 u125 u126 u127 : Value) :
    Code.wp Try.prog (cdrC 11 boBody) (bodyPost Try.prog Try.f8 fun e w' => e = .returned (.bool true) ∧ Below w.heap.size w w') ⟨#[.slice A bs.length c, .int .i64 most, u2, u3, u4, u5, u6, .func (.func f) #[] #[], u8, u9, .int .i64 ((Hs f bs (allH (8 * bs.length) (crc16 0 bs) most)).length : Nat), .pointer (some ⟨Bw, 0, none⟩), vo, u13, u14, u15, u16, u17, u18, u19, u20, u21, u22, u23, u24, u25, u26, u27, u28, u29, u30, u31, u32, u33, u34, u35, u36, u37, u38, u39, u40, u41, u42, u43, u44, u45, u46, u47, u48, u49, u50, u51, u52, u53, u54, u55, u56, u57, u58, u59, u60, u61, u62, u63, u64, u65, u66, u67, u68, u69, u70, u71, u72, u73, u74, u75, u76, u77, u78, u79, u80, u81, u82, u83, u84, u85, u86, u87, u88, u89, u90, u91, u92, u93, u94, u95, u96, u97, u98, u99, u100, u101, u102, u103, u104, u105, u106, u107, u108, u109, u110, u111, u112, u113, u114, u115, u116, u117, u118, u119, u120, u121, u122, u123, u124, u125, u126, u127], []⟩ W := by
  conv => arg 2; whnf
  have HOn := Lib.hid (Only_any f hf bs A c most W (HR.out.below HB.out) (by omega) Hn.out)
  have HON := Lib.hid (fun W => Only_nil A bs.length c most W)
  have HA := Lib.hid (fun W => awake_any W)
  unfold OnlyR at HOn
  simp only [zB] at HON
  generalize Hs f bs (allH (8 * bs.length) (crc16 0 bs) most) = H at *
  obtain ⟨L, hL⟩ : ∃ L, H.length = L := ⟨_, rfl⟩
  rw [hL] at hle ⊢
  have HL := Lib.hid hL
  clear hL
  go_wp2_with fail
  refine HOn.out.mono ?_
  rintro e w1 ⟨x, v, en, rfl, hR, hb1⟩
  rcases hR with ⟨hH, rfl, rfl, rfl⟩ | ⟨y, hH, rfl, ⟨A2, c2, rfl, hc2, hr2⟩, rfl⟩ | ⟨hH, rfl, rfl, rfl⟩
  · subst hH
    obtain rfl : L = 0 := HL.out.symm
    simp only [zB]
    go_wp2_with fail
    refine (HON.out _).mono ?_
    rintro e w2 ⟨rfl, hb2⟩
    have HX : Hid (Blk w2 w1.heap.size 28 #[.int .i64 0, .int .i64 0, .int .i64 0]) := hrow_below (heap_alloc_last w1 _) hb2
    have Hb2 := Lib.hid (bnext (bal (bnext HB.out hb1) (.cells #[.int .i64 0, .int .i64 0, .int .i64 0] 28)) hb2)
    have HX3 : Hid (Blk (w2.alloc (.cells #[.int .i64 0, .int .i64 0, .int .i64 0] 28)) w1.heap.size 28 #[.int .i64 0, .int .i64 0, .int .i64 0]) := hrow_alloc HX.out _
    have Hb3 : Hid (Below w.heap.size w (w2.alloc (.cells #[.int .i64 0, .int .i64 0, .int .i64 0] 28))) := bal Hb2.out _
    go_upto_region 26 with fail
    generalize w2.alloc (.cells #[.int .i64 0, .int .i64 0, .int .i64 0] 28) = w3 at *
    clear HX Hb2 hb2 hb1 HON HOn HW HO
    go_wp2_with (refine wpList_load_row_g rfl 28 _ rfl w1.heap.size rfl 28 #[.int .i64 0, .int .i64 0, .int .i64 0] (0, 0) _ HX3.out Try.underlying28 rfl (by kernel_rfl) ?_)
    refine (HA.out _).mono ?_
    rintro e w9 ⟨rfl, hb9⟩
    have Hb9 := Lib.hid (bnext Hb3.out hb9)
    go_wp2_with fail
    go_ret
    exact ⟨rfl, Hb9.out⟩
  · subst hH
    obtain rfl : L = 1 := HL.out.symm
    have hW : Blk W Bw 28 #[.int .i64 (y.1.a : Int), .int .i64 (y.1.n : Int), .int .i64 (y.1.p : Int)] := HW.out
    obtain ⟨A3, c3, rfl, hc3, hr3⟩ : ∃ A3 c3, vo = .slice A3 bs.length c3 ∧ bs.length ≤ c3 ∧ Rd W A3 (bv (outB bs y.1)) := HO.out
    have HBy := Lib.hid (fun W' (h1 : Rd W' A2 (bv (outB bs y.1))) (h2 : Rd W' A3 (bv (outB bs y.1))) => bytesQ_any (outB bs y.1) (outB bs y.1) A2 A3 c2 c3 W' h1 h2 (by rw [outB_length]; omega))
    rw [outB_length] at HBy
    simp only [cellX]
    go_wp2_with fail
    refine (HON.out _).mono ?_
    rintro e w2 ⟨rfl, hb2⟩
    have HX : Hid (Blk w2 w1.heap.size 28 #[.int .i64 (y.1.a : Int), .int .i64 (y.1.n : Int), .int .i64 (y.1.p : Int)]) := hrow_below (heap_alloc_last w1 _) hb2
    have Hb2 := Lib.hid (bnext (bal (bnext HB.out hb1) (.cells #[.int .i64 (y.1.a : Int), .int .i64 (y.1.n : Int), .int .i64 (y.1.p : Int)] 28)) hb2)
    have Hb12 : Hid (Below w1.heap.size w1 (w2.alloc (.cells #[.int .i64 0, .int .i64 0, .int .i64 0] 28))) := bal (bnext (bal (Below.refl _ _) _) hb2) _
    have HX3 : Hid (Blk (w2.alloc (.cells #[.int .i64 0, .int .i64 0, .int .i64 0] 28)) w1.heap.size 28 #[.int .i64 (y.1.a : Int), .int .i64 (y.1.n : Int), .int .i64 (y.1.p : Int)]) := hrow_alloc HX.out _
    have Hb3 : Hid (Below w.heap.size w (w2.alloc (.cells #[.int .i64 0, .int .i64 0, .int .i64 0] 28))) := bal Hb2.out _
    have HW3 : Hid (Blk (w2.alloc (.cells #[.int .i64 0, .int .i64 0, .int .i64 0] 28)) Bw 28 #[.int .i64 (y.1.a : Int), .int .i64 (y.1.n : Int), .int .i64 (y.1.p : Int)]) := hrow_below (hrow_below hW hb1) Hb12.out
    have Hr2 := Lib.hid (hr2.below Hb12.out)
    have Hr3 := Lib.hid ((hr3.below hb1).below Hb12.out)
    go_upto_region 26 with fail
    generalize w2.alloc (.cells #[.int .i64 0, .int .i64 0, .int .i64 0] 28) = w3 at *
    clear HX Hb2 hb2 hb1 HON HOn HW HO hW hr2 hr3 Hb12
    go_wp2_with (first | (refine wpList_load_row_g rfl 28 _ rfl w1.heap.size rfl 28 #[.int .i64 (y.1.a : Int), .int .i64 (y.1.n : Int), .int .i64 (y.1.p : Int)] (0, 0) _ HX3.out Try.underlying28 rfl (by kernel_rfl) ?_) | (refine wpList_load_row_g rfl 28 _ rfl Bw rfl 28 #[.int .i64 (y.1.a : Int), .int .i64 (y.1.n : Int), .int .i64 (y.1.p : Int)] (0, 0) _ HW3.out Try.underlying28 rfl (by kernel_rfl) ?_))
    refine (HBy.out _ Hr2.out Hr3.out).mono ?_
    rintro e w4 ⟨rfl, q, rfl⟩
    have Hb4 : Hid (Below w.heap.size w (w3.drewN q)) := below_drewN Hb3.out q
    simp only [decide_true]
    go_wp2_with fail
    refine (HA.out _).mono ?_
    rintro e w9 ⟨rfl, hb9⟩
    have Hb9 := Lib.hid (bnext Hb4.out hb9)
    go_wp2_with fail
    go_ret
    exact ⟨rfl, Hb9.out⟩
  · have h2 : (1 : Int) < L := by have := HL.out; omega
    have h3 : ((L : Int) != 1) = true := by rw [bne_iff_ne]; omega
    have h4 : ((L : Int) == 0) = false := by rw [beq_eq_false_iff_ne]; omega
    simp only [zB]
    go_wp2_with fail
    refine (HON.out _).mono ?_
    rintro e w2 ⟨rfl, hb2⟩
    have HX : Hid (Blk w2 w1.heap.size 28 #[.int .i64 0, .int .i64 0, .int .i64 0]) := hrow_below (heap_alloc_last w1 _) hb2
    have Hb2 := Lib.hid (bnext (bal (bnext HB.out hb1) (.cells #[.int .i64 0, .int .i64 0, .int .i64 0] 28)) hb2)
    have HX3 : Hid (Blk (w2.alloc (.cells #[.int .i64 0, .int .i64 0, .int .i64 0] 28)) w1.heap.size 28 #[.int .i64 0, .int .i64 0, .int .i64 0]) := hrow_alloc HX.out _
    have Hb3 : Hid (Below w.heap.size w (w2.alloc (.cells #[.int .i64 0, .int .i64 0, .int .i64 0] 28))) := bal Hb2.out _
    go_upto_region 26 with fail
    generalize w2.alloc (.cells #[.int .i64 0, .int .i64 0, .int .i64 0] 28) = w3 at *
    clear HX Hb2 hb2 hb1 HON HOn HW HO hH
    go_wp2_with (refine wpList_load_row_g rfl 28 _ rfl w1.heap.size rfl 28 #[.int .i64 0, .int .i64 0, .int .i64 0] (0, 0) _ HX3.out Try.underlying28 rfl (by kernel_rfl) ?_)
    refine (HA.out _).mono ?_
    rintro e w9 ⟨rfl, hb9⟩
    have Hb9 := Lib.hid (bnext Hb3.out hb9)
    go_wp2_with fail
    go_ret
    exact ⟨rfl, Hb9.out⟩
end Go.Proofs.Yticfmhmkgcdhgaa
