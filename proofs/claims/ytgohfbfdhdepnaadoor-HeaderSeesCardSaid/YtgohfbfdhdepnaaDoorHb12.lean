/-
  jetsamlaw08.awake.
  jetsamlaw08.HeaderBack: its walk, from the second Read on.
  jetsamlaw08.HeaderBack: its walk.
  The arguments of a law, opened: what the walks are told of them.
  A header that came in, opened.
  What the rows' condition on the tables gives the walks; the door's own heap meets it.
  Plain law: damage of no more than W bits in a row turns the sum.
  jetsamlaw08.HeaderSees: a header's bytes, damaged: plain.
  jetsamlaw08.HeaderSees: its walk, from the Read on.
  jetsamlaw08.HeaderSees: its walk, the loop.
-/
import Derived.Test.YtgohfbfdhdepnaaDoorHb8
import Derived.Test.YtgohfbfdhdepnaaDoorHb10
import Derived.Test.YtgohfbfdhdepnaaDoorHb11
import Derived.Test.YtgohfbfdhdepnaaDoorHb9
import Derived.Test.YtgohfbfdhdepnaaDoorHb1
import Derived.Test.YtgohfbfdhdepnaaDoorHb2
import Derived.Deep.DeepCutAuto
import Derived.ProofKit
import Derived.OpenShut
import Derived.ShutString
import Derived.ChangeOld
import Derived.Deep.Slices
import Derived.Test.YtgohfbfdhdepnaaDoorHb3
import Derived.Deep.SlicePairs
import Derived.Lib.SmallJoins
import Derived.LaidMore
import Derived.Stop.Joined
import Derived.Lib.LaidTab
import Derived.Stop.LaidErr
import Derived.Test.YtgohfbfdhdepnaaDoorHb7
import Derived.RegionTactic
import Derived.BigRegion
set_option linter.unusedSimpArgs false
set_option linter.unusedVariables false
namespace Go.Proofs.YtgohfbfdhdepnaaDoor
open Go.RowKit

def awH : Hd := ⟨false, 12, 9, 10, 4, 0, 4096, 44100, 16⟩
theorem awE : mkE false 0 4096 10 44100 2 16 = 0 := by decide +kernel
theorem awR : mkR false 0 4096 10 44100 2 16 = awH := by unfold mkR; rw [if_pos awE]; kernel_rfl
theorem awC : chkE awH = 0 := by decide +kernel
theorem awL : (hdB awH).length = 6 := by decide +kernel
theorem awT : (hdB awH).take 5 = [255, 248, 201, 168, 0] := by decide +kernel
theorem awB : ¬ badM 4096 44100 16 := by decide +kernel

set_option maxRecDepth 100000 in
set_option maxHeartbeats 2000000 in
theorem awake_any (w : World) (ht : HTabs w) : Calls Tryd.prog 12 #[] w fun e w' => e = .returned (.bool true) ∧ Below w.heap.size w w' := by
  have HT := Lib.hid ht
  have HM := Lib.hid (fun W (hb : Below w.heap.size w W) => Make_any false 0 4096 10 44100 2 16 awB W (ht.below hb))
  have HW := Lib.hid (fun W (hb : Below w.heap.size w W) => Write_ok awH (by decide) awC W (ht.below hb))
  rw [awE, awR] at HM
  rw [awL] at HW
  simp only [Hd.val, awH] at HM
  have HWv : Hid (∀ W, Below w.heap.size w W → Calls Tryd.prog 10 #[.agg #[.bool false, .int .i64 12, .int .i64 9, .int .i64 10, .int .i64 4, .int .i64 0, .int .i64 4096, .int .i64 44100, .int .i64 16]] W fun e w' => ∃ v, e = .returned (.tuple #[v, .int .i64 0]) ∧ Hid (w'.ownsRow W.heap.size 5 1 v 6 (bv (hdB awH))) ∧ Below W.heap.size W w') := HW.out
  clear HW ht
  have HT5 : Hid ((hdB awH).take 5 = [255, 248, 201, 168, 0]) := awT
  have HL : Hid ((hdB awH).length = 6) := awL
  generalize hdB awH = F at *
  go_enter Tryd.func12, Tryd.ntmps12
  go_wp2_with fail
  refine (HM.out _ (Below.refl _ _)).mono ?_
  rintro e w1 ⟨rfl, hb1⟩
  clear HM
  go_wp2_with fail
  refine (HWv.out _ (bal hb1 _)).mono ?_
  rintro e w2 ⟨v, rfl, Hown, hb2⟩
  obtain ⟨A, c, rfl, hc, hc63, hr, hn⟩ := own_rd4 Hown.out
  have hb3 : Below w.heap.size w w2 := bnext (bal hb1 _) hb2
  have hr5 : Rd w2 A (bv [255, 248, 201, 168, 0]) := by
    have h := hr.take 5
    rw [show (bv F).take 5 = bv (F.take 5) from by simp [bv], HT5.out] at h
    exact h
  clear HWv hb1 hb2 Hown hr hn
  have hc5 : 5 ≤ c := by omega
  go_wp2_with fail
  have h := Rd.new w2 #[.int .u8 255, .int .u8 248, .int .u8 201, .int .u8 168, .int .u8 0] 5
  refine (bytes_any [255, 248, 201, 168, 0] [255, 248, 201, 168, 0] A _ c 5 _ (hr5.alloc _) h (by decide)).mono ?_
  rintro e w4 ⟨rfl, hb4⟩
  have hb5 : Below w.heap.size w w4 := bnext (bal hb3 _) hb4
  go_wp2_with fail
  go_ret
  exact ⟨rfl, hb5⟩
end Go.Proofs.YtgohfbfdhdepnaaDoor

namespace Go.Proofs.YtgohfbfdhdepnaaDoor
open Go.RowKit

noncomputable def bkBody : Code := (Tryd.f6.body).getD .skip
theorem Hd.val_zero : Hd.zero.val = .agg #[.bool false, .int .i64 0, .int .i64 0, .int .i64 0, .int .i64 0, .int .i64 0, .int .i64 0, .int .i64 0, .int .i64 0] := rfl

set_option maxRecDepth 1000000 in
set_option maxHeartbeats 4000000 in
theorem bkTail (l : List UInt8) (A : Option Addr) (c : Nat) (w W : World) (HB : Hid (Below w.heap.size w W)) (HR : Hid (Rd w A (bv l))) (hl : l.length ≤ 60) (hc : l.length ≤ c) (Hn : Hid (A = none → l.length = 0 ∧ c = 0)) (HT : Hid (HTabs w))
    (u0 u2 u3 u4 u5 u6 u7 u8 u9 u10 u11 u12 u13 u14 u15 u16 u17 u18 u19 u20 u21 u22 u23 u24 u25 u26 u27 u28 u29 u30 u31 u32 u33 u34 u35 u36 u37 u38 u39 u40 u41 u42 u43 u44 u45 u46 u47 u48 u49 u50 u51 u52 u53 u54 u55 u56 u57 u58 u59 u60 u61 u62 u63 u64 u65 u66 u67 u68 u69 u70 u71 u72 u73 u74 u75 u76 u77 u78 u79 u80 u81 u82 u83 u84 u85 u86 u87 u88 u89 u90 u91 u92 u93 u94 u95 u96 u97 u98 u99 u100 u101 u102 u103 u104 u105 u106 u107 u108 u109 u110 u111 u112 u113 u114 u115 u116 u117 u118 u119 u120 : Value) :
    Code.wp Tryd.prog (cdrC 4 bkBody) (bodyPost Tryd.prog Tryd.f6 fun e w' => e = .returned (.bool true) ∧ Below w.heap.size w w') ⟨#[u0, .slice A l.length c, u2, u3, u4, u5, u6, u7, u8, u9, u10, u11, u12, u13, u14, u15, u16, u17, u18, u19, u20, u21, u22, u23, u24, u25, u26, u27, u28, u29, u30, u31, u32, u33, u34, u35, u36, u37, u38, u39, u40, u41, u42, u43, u44, u45, u46, u47, u48, u49, u50, u51, u52, u53, u54, u55, u56, u57, u58, u59, u60, u61, u62, u63, u64, u65, u66, u67, u68, u69, u70, u71, u72, u73, u74, u75, u76, u77, u78, u79, u80, u81, u82, u83, u84, u85, u86, u87, u88, u89, u90, u91, u92, u93, u94, u95, u96, u97, u98, u99, u100, u101, u102, u103, u104, u105, u106, u107, u108, u109, u110, u111, u112, u113, u114, u115, u116, u117, u118, u119, u120], []⟩ W := by
  conv => arg 2; whnf
  have HA := Lib.hid (fun W (hb : Below w.heap.size w W) => awake_any W (HT.out.below hb))
  have HRd := Lib.hid (Read_any l A c W (HR.out.below HB.out) (by omega) hc Hn.out (HT.out.below HB.out))
  go_wp2_with fail
  refine HRd.out.mono ?_
  rintro z w1 ⟨x, n, f, rfl, R, hb1⟩
  have Hb1 := Lib.hid (bnext HB.out hb1)
  have HK := Lib.hid (read_ok R)
  clear HRd hb1 R
  by_cases hf : f = 0
  · subst hf
    rcases HK.out with ⟨h, -⟩ | ⟨-, hck, h6, h16, hnl, hB, hr63⟩
    · exact absurd rfl h
    have HW := Lib.hid (fun W (hb : Below w.heap.size w W) => Write_ok x (by omega) hck W (HT.out.below hb))
    have HBy := Lib.hid (fun (A1 : Option Addr) c1 W (h1 : Rd W A1 (bv (hdB x))) (h2 : Rd W A (bv (l.take n))) => bytes_any (hdB x) (l.take n) A1 A c1 c W h1 h2 (by rw [hB, List.length_take]; omega))
    have hlen : (l.take n).length = n := by rw [List.length_take]; omega
    rw [hB, hlen] at HW
    rw [hB, hlen] at HBy
    have HRn : Hid (∀ W, Below w.heap.size w W → Rd W A (bv (l.take n))) := fun W hb => by
      have h := (HR.out.below hb).take n
      rwa [show (bv l).take n = bv (l.take n) from by simp [bv]] at h
    generalize l.take n = ln at *
    clear hck hB HK hlen
    obtain ⟨V, bc, rc, m, dc, nn, b, r, d⟩ := x
    simp only [Hd.val] at HW ⊢
    clear hr63
    have hn6 : (n : Int) ≥ 6 := by omega
    have hn16 : (n : Int) ≤ 16 := by omega
    have hnl' : (n : Int) ≤ l.length := by omega
    have hnc : (n : Int) ≤ c := by omega
    go_wp2_with fail
    refine (HW.out _ (bal Hb1.out _)).mono ?_
    rintro e w2 ⟨v, rfl, Hown, hb2⟩
    obtain ⟨A1, c1, rfl, hc1, hr1⟩ := own_rd Hown.out
    have Hb2 := Lib.hid (bnext (bal Hb1.out _) hb2)
    have HBy2 : Hid (Calls Tryd.prog 13 #[.slice A1 n c1, .slice A n c] w2 fun e w' => e = .returned (.bool true) ∧ Below w2.heap.size w2 w') := by
      have h := HBy.out A1 c1 w2 hr1 (HRn.out w2 Hb2.out)
      show Calls _ _ _ _ _
      simpa using h
    clear HW hb2 Hown hr1 hc1 HBy HRn Hb1
    go_wp2_with fail
    refine HBy2.out.mono ?_
    rintro e w3 ⟨rfl, hb3⟩
    have Hb3 := Lib.hid (bnext Hb2.out hb3)
    clear hb3 HBy2
    go_wp2_with fail
    refine (HA.out _ Hb3.out).mono ?_
    rintro e w4 ⟨rfl, hb4⟩
    have Hb4 := Lib.hid (bnext Hb3.out hb4)
    clear hb4 HA
    go_wp2_with fail
    go_ret
    exact ⟨rfl, Hb4.out⟩
  · rcases HK.out with ⟨-, rfl, rfl⟩ | ⟨h, -⟩
    · clear HK
      rw [Hd.val_zero]
      have hf' : (f != 0) = true := by rw [bne_iff_ne]; exact hf
      go_wp2_with fail
      refine (HA.out _ (bal Hb1.out _)).mono ?_
      rintro e w4 ⟨rfl, hb4⟩
      have Hb4 := Lib.hid (bnext (bal Hb1.out _) hb4)
      clear hb4 HA
      go_wp2_with fail
      go_ret
      exact ⟨rfl, Hb4.out⟩
    · exact absurd h hf
end Go.Proofs.YtgohfbfdhdepnaaDoor

namespace Go.Proofs.YtgohfbfdhdepnaaDoor
open Go.RowKit

set_option maxRecDepth 1000000 in
set_option maxHeartbeats 4000000 in
theorem back_walk (h : Hd) (hr63 : h.r ≤ 9223372036854775807) (l : List UInt8) (A : Option Addr) (c : Nat) (w : World) (hr : Rd w A (bv l)) (hc : l.length ≤ c) (hn : A = none → l.length = 0 ∧ c = 0) (ht : HTabs w) :
    Calls Tryd.prog 6 #[h.val, .slice A l.length c] w fun e w' => e = .returned (.bool true) ∧ Below w.heap.size w w' := by
  have HT := Lib.hid ht
  have HR := Lib.hid hr
  have Hn := Lib.hid hn
  have HA := Lib.hid (fun W (hb : Below w.heap.size w W) => awake_any W (ht.below hb))
  have Hb0 : Hid (Below w.heap.size w (w.alloc (.cells h.cells 23))) := bal (Below.refl _ _) _
  have HB0 : Hid (HdAt (w.alloc (.cells h.cells 23)) w.heap.size h) := heap_alloc_last w _
  clear ht hr hn
  by_cases hl : 60 < l.length
  case pos =>
    obtain ⟨V, bc, rc, m, dc, n, b, r, d⟩ := h
    simp only [Hd.val, Hd.cells] at Hb0 HB0 ⊢
    have hl' : (60 : Int) < l.length := by omega
    go_enter Tryd.func6, Tryd.ntmps6
    go_wp2_with fail
    refine (HA.out _ Hb0.out).mono ?_
    rintro e w1 ⟨rfl, hb1⟩
    have Hb1 := Lib.hid (bnext Hb0.out hb1)
    clear hb1
    go_wp2_with fail
    go_ret
    exact ⟨rfl, Hb1.out⟩
  have hl' : ¬ (60 : Int) < l.length := by omega
  have hl60 : l.length ≤ 60 := by omega
  by_cases hk : chkE h = 0
  case neg =>
    have HW := Lib.hid (fun W (hb : Below w.heap.size w W) => Write_no h hr63 hk W (HT.out.below hb))
    have hx : (chkE h == 0) = false := by rw [beq_eq_false_iff_ne]; exact hk
    generalize chkE h = xc at *
    obtain ⟨V, bc, rc, m, dc, n, b, r, d⟩ := h
    simp only [Hd.val, Hd.cells] at HW Hb0 HB0 ⊢
    clear hr63 hk HB0
    go_enter Tryd.func6, Tryd.ntmps6
    go_wp2_with fail
    refine (HW.out _ Hb0.out).mono ?_
    rintro e w1 ⟨rfl, hb1⟩
    have Hb1 := Lib.hid (bnext Hb0.out hb1)
    clear hb1 HW Hb0
    go_upto_if 30 with fail
    go_cut [] (fun wx => wx = w1)
    case first =>
      go_wp2_with fail
      go_meet
      rfl
    case rest =>
      subst hcut
      go_step
      exact bkTail l A c w _ Hb1 HR hl60 hc Hn HT _ _ _ _ _ _ _ _ _ _ _ _ _ _ _ _ _ _ _ _ _ _ _ _ _ _ _ _ _ _ _ _ _ _ _ _ _ _ _ _ _ _ _ _ _ _ _ _ _ _ _ _ _ _ _ _ _ _ _ _ _ _ _ _ _ _ _ _ _ _ _ _ _ _ _ _ _ _ _ _ _ _ _ _ _ _ _ _ _ _ _ _ _ _ _ _ _ _ _ _ _ _ _ _ _ _ _ _ _ _ _ _ _ _ _ _ _ _ _ _ 
  case pos =>
    have HW := Lib.hid (fun W (hb : Below w.heap.size w W) => Write_ok h hr63 hk W (HT.out.below hb))
    have HP := Lib.hid (fun (l' d' b' : List UInt8) (hl : l' ++ d' = hdB h ++ b') x n f (R : ReadRel l' x n f) => read_pre hk hl R)
    have hFl : (hdB h).length ≤ 16 := by
      have h1 := hdB_length h
      have h2 := hdI_length h
      rw [blkI_length, ratI_length] at h2
      have h3 := (C3.szN_pos h.n.toNat).2
      have h4 := blW_cases (h.bc.toNat : Nat)
      have h5 := raW_cases (h.rc.toNat : Nat)
      omega
    have hF0 : 0 < (hdB h).length := by rw [hdB_length]; omega
    generalize hdB h = F at *
    obtain ⟨V, bc, rc, m, dc, n, b, r, d⟩ := h
    simp only [Hd.val, Hd.cells] at HW Hb0 HB0 ⊢
    clear hr63 hk
    go_enter Tryd.func6, Tryd.ntmps6
    go_wp2_with fail
    refine (HW.out _ Hb0.out).mono ?_
    rintro e w1 ⟨v, rfl, Hown, hb1⟩
    obtain ⟨A1, c1, rfl, hc1, hr1, hn1⟩ := own_nilcap Hown.out
    have Hn1 : Hid (A1 = none → F.length = 0 ∧ c1 = 0) := fun k => by have := hn1 k; omega
    have Hr1 := Lib.hid hr1
    have Hb1 := Lib.hid (bnext Hb0.out hb1)
    have HB1 : Hid (HdAt w1 w.heap.size ⟨V, bc, rc, m, dc, n, b, r, d⟩) := HB0.out.below hb1
    clear hb1 HW Hb0 HB0 Hown hr1
    go_upto_if 30 with fail
    go_cut [] (fun wx => Below w.heap.size w wx)
    case rest =>
      go_step
      exact bkTail l A c w _ hcut HR hl60 hc Hn HT _ _ _ _ _ _ _ _ _ _ _ _ _ _ _ _ _ _ _ _ _ _ _ _ _ _ _ _ _ _ _ _ _ _ _ _ _ _ _ _ _ _ _ _ _ _ _ _ _ _ _ _ _ _ _ _ _ _ _ _ _ _ _ _ _ _ _ _ _ _ _ _ _ _ _ _ _ _ _ _ _ _ _ _ _ _ _ _ _ _ _ _ _ _ _ _ _ _ _ _ _ _ _ _ _ _ _ _ _ _ _ _ _ _ _ _ _ _ _ _ 
    case first =>
      have Hlf : Hid ((bv F).length = F.length) := by show _ = _; simp [bv]
      have Hlb : Hid ((bv l).length = l.length) := by show _ = _; simp [bv]
      have HR1 := Lib.hid (HR.out.below Hb1.out)
      have Hc0 : Hid (A = none → c = 0) := fun k => (Hn.out k).2
      have Hone : Hid (∀ (l : List UInt8), ∀ u ∈ bv l, u.oneCell' = true) := fun l => bv_one l
      go_upto_region 7 with (at_builtin; refine appN (w0 := w1) (base := w1.heap.size) rfl _ _ 28 rfl Tryd.underlying28 C3.info_u8 rfl rfl (World.ownsRow_nil w1 w1.heap.size _ 1) (Nat.le_refl _) (Nat.le_refl _) (Below.refl _ _) rfl Hr1.out Hlf.out hn1 (Hone.out F) (by omega) (by unfold maxLen; omega) ?_; intro v1 w2 own1 hb2 hs2 hnil2; rw [List.nil_append, Nat.zero_add] at own1; have Hown1 := Lib.hid own1; have Hb2 := Lib.hid hb2; clear own1 hb2 hnil2)
      have HR2 := Lib.hid (HR1.out.below Hb2.out)
      go_upto_region 8 with (at_builtin; refine appN (w0 := w1) (base := w1.heap.size) rfl _ _ 28 rfl Tryd.underlying28 C3.info_u8 rfl rfl Hown1.out (Nat.le_refl _) hs2 Hb2.out rfl HR2.out Hlb.out Hc0.out (Hone.out l) (by omega) (by unfold maxLen; omega) ?_; intro v2 w3 own2 hb3 hs3 hnil3; have Hown2 := Lib.hid own2; have Hb3 := Lib.hid hb3; clear own2 hb3 hnil3)
      obtain ⟨A3, c3, rfl, hc3, hr3, hn3⟩ := own_nilcap Hown2.out
      have HRd : Hid (Calls Tryd.prog 18 #[.slice A3 (F.length + l.length) c3] w3 fun z w' => z = .returned (.tuple #[Hd.val ⟨V, bc, rc, m, dc, n, b, r, d⟩, .int .i64 F.length, .int .i64 0]) ∧ Below w3.heap.size w3 w') := by
        have e : (F ++ l).length = F.length + l.length := List.length_append
        have h := Read_any (F ++ l) A3 c3 w3 (by rw [bv_append]; exact hr3) (by omega) (by omega) (fun k => by have := hn3 k; omega) (HT.out.below (bnext Hb1.out Hb3.out))
        rw [e] at h
        refine h.mono ?_
        rintro z w' ⟨x, nn, f, rfl, R, hb⟩
        rcases HP.out (F ++ l) [] l (by simp) x nn f R with ⟨-, rfl, rfl, rfl⟩ | ⟨h1, -⟩
        · exact ⟨rfl, hb⟩
        · omega
      have HB3 := Lib.hid (HB1.out.below Hb3.out)
      have Hb13 := Lib.hid (bnext Hb1.out Hb3.out)
      clear hr3 hn3 hc3 Hown1 Hown2 Hb2 HR2 HR1 HB1 hs2 hs3 Hlf Hlb Hone
      simp only [Hd.val] at HRd
      go_wp2_with fail
      refine HRd.out.mono ?_
      rintro z w4 ⟨rfl, hb4⟩
      have HB4 := Lib.hid (HB3.out.below hb4)
      have Hb4 := Lib.hid (bnext Hb13.out hb4)
      have Hb14 := Lib.hid (bnext Hb3.out hb4)
      clear HRd hb4 HB3 Hb13 Hb3
      have HB5 : Hid (HdAt (w4.alloc (.cells (Hd.cells ⟨V, bc, rc, m, dc, n, b, r, d⟩) 23)) w.heap.size ⟨V, bc, rc, m, dc, n, b, r, d⟩) := hrow_alloc HB4.out _
      have HX5 : Hid (HdAt (w4.alloc (.cells (Hd.cells ⟨V, bc, rc, m, dc, n, b, r, d⟩) 23)) w4.heap.size ⟨V, bc, rc, m, dc, n, b, r, d⟩) := heap_alloc_last w4 _
      have Hb5 : Hid (Below w.heap.size w (w4.alloc (.cells (Hd.cells ⟨V, bc, rc, m, dc, n, b, r, d⟩) 23))) := bal Hb4.out _
      have Hb15 : Hid (Below w1.heap.size w1 (w4.alloc (.cells (Hd.cells ⟨V, bc, rc, m, dc, n, b, r, d⟩) 23))) := bal Hb14.out _
      simp only [Hd.cells] at HB5 HX5 Hb5 Hb15
      go_upto_region 9 with fail
      generalize w4.alloc (.cells #[.bool V, .int .i64 bc, .int .i64 rc, .int .i64 m, .int .i64 dc, .int .i64 n, .int .i64 b, .int .i64 r, .int .i64 d] 23) = w5 at *
      clear HB4 Hb4 Hb14
      go_upto_region 11 with (first | (refine wpList_load_row rfl 23 _ rfl w4.heap.size rfl 23 #[.bool V, .int .i64 bc, .int .i64 rc, .int .i64 m, .int .i64 dc, .int .i64 n, .int .i64 b, .int .i64 r, .int .i64 d] (0, 0) _ HX5.out Tryd.underlying23 rfl (by kernel_rfl) ?_) | (refine wpList_load_row rfl 23 _ rfl w.heap.size rfl 23 #[.bool V, .int .i64 bc, .int .i64 rc, .int .i64 m, .int .i64 dc, .int .i64 n, .int .i64 b, .int .i64 r, .int .i64 d] (0, 0) _ HB5.out Tryd.underlying23 rfl (by kernel_rfl) ?_))
      clear HB5 HX5
      go_wp2_with fail
      go_loopw [11] (fun i wr => ∃ k : Nat, k ≤ F.length ∧ i = .int .i64 k ∧ Below w.heap.size w wr ∧ Below w1.heap.size w1 wr) (fun i _ => F.length - (intOf i).toNat)
      case atStart => exact ⟨0, by omega, rfl, Hb5.out, Hb15.out⟩
      case round =>
        obtain ⟨k, hk, rfl, hbw, hbw1⟩ := hrel
        by_cases hkk : k < F.length
        · have HRd : Hid (Calls Tryd.prog 18 #[.slice A1 k c1] wr fun z w' => (∃ x : Hd, z = .returned (.tuple #[.agg x.cells, .int .i64 0, .int .i64 11])) ∧ Below wr.heap.size wr w') := by
            have e : (F.take k).length = k := by rw [List.length_take]; omega
            have h := Read_any (F.take k) A1 c1 wr (by
              have h := (Hr1.out.below hbw1).take k
              rwa [show (bv F).take k = bv (F.take k) from by simp [bv]] at h) (by omega) (by omega) (fun q => by have := (Hn1.out q).1; omega) (HT.out.below hbw)
            rw [e] at h
            refine h.mono ?_
            rintro z w' ⟨x, nn, f, rfl, R, hb⟩
            rcases HP.out (F.take k) (F.drop k) [] (by simp) x nn f R with ⟨h1, -⟩ | ⟨-, rfl⟩
            · omega
            · rcases read_ok R with ⟨-, rfl, rfl⟩ | ⟨h1, -⟩
              · exact ⟨⟨Hd.zero, rfl⟩, hb⟩
              · cases h1
          have kF : (k : Int) < F.length := by omega
          have kc : (k : Int) ≤ c1 := by omega
          have Hbw := Lib.hid hbw
          have Hbw1 := Lib.hid hbw1
          clear hbw hbw1
          go_wp2_with fail
          refine HRd.out.mono ?_
          rintro z w6 ⟨⟨⟨V2, bc2, rc2, m2, dc2, n2, b2, r2, d2⟩, rfl⟩, hb6⟩
          have Hb6 := Lib.hid (bnext Hbw.out hb6)
          have Hb16 := Lib.hid (bnext Hbw1.out hb6)
          clear HRd hb6 Hbw Hbw1
          simp only [Hd.cells]
          go_wp2_with fail
          go_roundw
          case rel => exact ⟨k + 1, by omega, by go_num, bal Hb6.out _, bal Hb16.out _⟩
          case measure => simp [intOf] <;> omega
        · obtain rfl : k = F.length := by omega
          go_wp2_with fail
          go_meet
          exact hbw
end Go.Proofs.YtgohfbfdhdepnaaDoor

namespace Go.Proofs.YtgohfbfdhdepnaaDoor
open Go.ChangeShapes Go.WideShapes Go.ChangeAt Go.RowKit

section
variable {H : Type} {enc : TypeId × Value → H} {P : Program} {W : World} {base : Nat} {spare : Nat → Bool} {held : Bool}

theorem add_block (x : Addr) (i : Nat) : (x.add i).block = x.block := by unfold Addr.add; split <;> rfl

/-- Cells from an address on, read as values. -/
theorem rd_of_cells {x : Addr} {xs : List Value} (h : ∀ i, i < xs.length → W.cell? (x.add i) = xs[i]?) : Rd W (some x) xs := by
  intro j u hu
  have hj : j < xs.length := (List.getElem?_eq_some_iff.1 hu).1
  obtain ⟨b, o, sp⟩ := x
  have h0 := h 0 (by omega)
  rw [List.getElem?_eq_getElem (by omega)] at h0
  have hs : sp = none := by simpa [Addr.add] using World.cell?_spot h0
  subst hs
  refine ⟨b, o, rfl, ?_⟩
  have := h j hj
  rw [hu] at this
  rw [← this]
  unfold Addr.add
  split <;> simp_all

theorem open_int_list {k : IntKind} {t e : TypeId} (ht : P.underlying t = some (.slice e)) (he : P.underlying e = some (.int k)) (hc : P.cellsOf e = 1)
    {A : Option Addr} {n c : Nat} {d : DataW H} {p : List MemPlace} (h : DataW.Trod enc P W base spare held t (.slice A n c) d p) :
    ∃ l : List Int, n = l.length ∧ n ≤ c ∧ c ≤ maxLen ∧ Rd W A (l.map (Value.int k)) ∧ ∀ z ∈ l, (Lit.int k z).wf = true := by
  obtain ⟨fuel, hf⟩ := h
  rcases open_ints ht he hc hf with ⟨hcs, _⟩ | ⟨x, l, cc, zs, hcs, _, hl, hm, hz, _, hcell, hwz⟩
  · simp [Value.cells] at hcs
    obtain ⟨rfl, rfl, rfl⟩ := hcs
    exact ⟨[], rfl, Nat.le_refl _, Nat.zero_le _, Rd.nil _ _, fun z hz => by cases hz⟩
  · simp [Value.cells] at hcs
    obtain ⟨rfl, rfl, rfl⟩ := hcs
    have hlz : n ≤ zs.length := by rw [hz]; split <;> omega
    refine ⟨zs.take n, by rw [List.length_take]; omega, hl, hm, ?_, fun z hz => hwz z (List.mem_of_mem_take hz)⟩
    refine rd_of_cells fun i hi => ?_
    have hi' : i < n := by simp at hi; omega
    rw [hcell i (by omega), List.getElem?_map, List.getElem?_take, if_pos hi', List.getElem?_eq_getElem (by omega)]
    simp [List.getD, show i < zs.length by omega]

theorem open_bytes {t e : TypeId} (ht : P.underlying t = some (.slice e)) (he : P.underlying e = some (.int .u8)) (hc : P.cellsOf e = 1)
    {A : Option Addr} {n c : Nat} {d : DataW H} {p : List MemPlace} (h : DataW.Trod enc P W base spare held t (.slice A n c) d p) :
    ∃ l : List UInt8, n = l.length ∧ n ≤ c ∧ c ≤ maxLen ∧ Rd W A (bv l) := by
  obtain ⟨l, h1, h2, h3, h4, h5⟩ := open_int_list ht he hc h
  refine ⟨l.map fun z => UInt8.ofNat z.toNat, by simpa using h1, h2, h3, ?_⟩
  have : bv (l.map fun z => UInt8.ofNat z.toNat) = l.map (Value.int .u8) := by
    unfold bv
    rw [List.map_map]
    refine List.map_congr_left fun z hz => ?_
    have hw := h5 z hz
    simp only [Lit.wf, IntKind.min, IntKind.max, IntKind.signed, IntKind.bits, Bool.and_eq_true, decide_eq_true_eq] at hw
    simp at hw
    show Value.int .u8 _ = Value.int .u8 _
    congr 1
    rw [UInt8.toNat_ofNat']
    omega
  rw [this]
  exact h4

/-- A nil slice has nothing. -/
theorem open_none {k : IntKind} {t e : TypeId} (ht : P.underlying t = some (.slice e)) (he : P.underlying e = some (.int k)) (hc : P.cellsOf e = 1)
    {A : Option Addr} {n c : Nat} {d : DataW H} {p : List MemPlace} (h : DataW.Trod enc P W base spare held t (.slice A n c) d p) : A = none → n = 0 ∧ c = 0 := by
  rintro rfl
  obtain ⟨fuel, hf⟩ := h
  rcases open_ints ht he hc hf with ⟨hcs, _⟩ | ⟨x, l, cc, zs, hcs, _⟩
  · simp [Value.cells] at hcs
    exact hcs
  · simp [Value.cells] at hcs

theorem okWide_agg {t : TypeId} {n : Nat} {e : TypeId} {w : World} {r : Reach} {b : Nat} {v : Value} (ht : P.underlying t = some (.array n e)) (h : Value.okWide P w r b t v) : ∃ cs, v = .agg cs ∧ cs.size = P.cellsOf t := by
  simp only [Value.okWide, ht] at h
  obtain ⟨cs, h1, h2, _⟩ := h
  exact ⟨cs, h1, h2⟩
/-- An array of whole numbers. -/
theorem open_int_arr {k : IntKind} {t e : TypeId} {n : Nat} (ht : P.underlying t = some (.array n e)) (he : P.underlying e = some (.int k)) (hc : P.cellsOf e = 1) (hct : P.cellsOf t = n)
    {v : Value} (hv : ∃ cs, v = .agg cs ∧ cs.size = P.cellsOf t) {d : DataW H} {p : List MemPlace} (h : DataW.Trod enc P W base spare held t v d p) :
    ∃ zs : List Int, zs.length = n ∧ v = .agg (zs.map (Value.int k)).toArray ∧ ∀ z ∈ zs, (Lit.int k z).wf = true := by
  obtain ⟨cs, rfl, hsz⟩ := hv
  obtain ⟨fuel, hf⟩ := h
  obtain ⟨xs, m, _, _, hl, hxl, hx⟩ := DataW.trod_array ht hf
  have key : ∀ i, i < n → ∃ z, cs[i]? = some (.int k z) ∧ (Lit.int k z).wf = true := by
    intro i hi
    have hi' : i < cs.size := by omega
    have h1 := hx i hi
    rw [hc, Nat.mul_one] at h1
    have e1 : (((Value.agg cs).cells.toList.drop i).take 1) = [cs[i]] := by
      show ((cs.toList.drop i).take 1) = _
      rw [List.drop_eq_getElem_cons (by simpa using hi')]
      simp
    rw [e1, List.getElem?_eq_getElem (by omega)] at h1
    obtain ⟨z, hz, _, hw⟩ := DataW.trod_int he h1
    refine ⟨z, ?_, hw⟩
    rw [Array.getElem?_eq_getElem hi']
    simpa using hz
  let f : Nat → Int := fun i => match cs[i]? with | some (.int _ z) => z | _ => 0
  refine ⟨(List.range n).map f, by simp, ?_, ?_⟩
  · congr 1
    refine Array.ext (by simp; omega) fun i h1 h2 => ?_
    obtain ⟨z, hz, _⟩ := key i (by omega)
    have : f i = z := by simp only [f, hz]
    simp [this]
    rw [Array.getElem?_eq_getElem h1] at hz
    exact Option.some.inj hz
  · intro z hz
    simp only [List.mem_map, List.mem_range] at hz
    obtain ⟨i, hi, rfl⟩ := hz
    obtain ⟨z, hz, hw⟩ := key i hi
    have : f i = z := by simp only [f, hz]
    rw [this]; exact hw

theorem i64_bounds {a : Int} (h : (Lit.int .i64 a).wf = true) : -9223372036854775808 ≤ a ∧ a ≤ 9223372036854775807 := by
  simp only [Lit.wf, IntKind.min, IntKind.max, IntKind.signed, IntKind.bits, Bool.and_eq_true, decide_eq_true_eq] at h
  simp at h
  omega
end
end Go.Proofs.YtgohfbfdhdepnaaDoor

namespace Go.Proofs.YtgohfbfdhdepnaaDoor
open Go.ChangeShapes Go.WideShapes Go.ChangeAt Go.RowKit Go.Joins Go.Deep

section
variable {H : Type} {enc : TypeId × Value → H} {W : World} {base : Nat} {spare : Nat → Bool} {held : Bool}
theorem array9 {cs : Array Value} (h : cs.size = 9) : ∃ x0 x1 x2 x3 x4 x5 x6 x7 x8, cs = #[x0, x1, x2, x3, x4, x5, x6, x7, x8] := by
  obtain ⟨l⟩ := cs
  match l, h with
  | [x0, x1, x2, x3, x4, x5, x6, x7, x8], _ => exact ⟨x0, x1, x2, x3, x4, x5, x6, x7, x8, rfl⟩
theorem c_int : Tryd.prog.cellsOf 3 = 1 := by kernel_rfl
theorem c_bool : Tryd.prog.cellsOf 4 = 1 := by kernel_rfl
theorem c_hdr : Tryd.prog.cellsOf 23 = 9 := by kernel_rfl
set_option maxHeartbeats 1000000 in
theorem open_hd {r : Reach} {b0 : Nat} {v : Value} {d : DataW H} {p : List MemPlace} (hv : Value.okWide Tryd.prog W r b0 23 v) (h : DataW.Trod enc Tryd.prog W base spare held 23 v d p) :
    ∃ x : Hd, v = x.val ∧ (∀ z ∈ [x.bc, x.rc, x.m, x.dc, x.n, x.b, x.r, x.d], (Lit.int .i64 z).wf = true) := by
  obtain ⟨cs, rfl, hsz⟩ := okWide_struct Tryd.underlying23 hv
  obtain ⟨x0, x1, x2, x3, x4, x5, x6, x7, x8, rfl⟩ := array9 (hsz.trans c_hdr)
  obtain ⟨fuel, hf⟩ := h
  obtain ⟨ys, n, rfl, -, -, hl, hx⟩ := DataW.trod_struct Tryd.underlying23 hf
  have hl' : ys.length = 9 := hl
  match ys, hl' with
  | [y0, y1, y2, y3, y4, y5, y6, y7, y8], _ =>
    have g0 := hx 0 _ rfl
    have g1 := hx 1 _ rfl
    have g2 := hx 2 _ rfl
    have g3 := hx 3 _ rfl
    have g4 := hx 4 _ rfl
    have g5 := hx 5 _ rfl
    have g6 := hx 6 _ rfl
    have g7 := hx 7 _ rfl
    have g8 := hx 8 _ rfl
    clear hx hf hv
    simp only [c_bool, c_int, Value.cells, List.drop_zero, List.drop_succ_cons, List.take_succ_cons, List.take_zero, List.getElem?_cons_zero, List.getElem?_cons_succ] at g0 g1 g2 g3 g4 g5 g6 g7 g8
    obtain ⟨a0, e0, -⟩ := DataW.trod_bool Tryd.underlying4 g0
    obtain ⟨a1, e1, -, w1⟩ := DataW.trod_int Tryd.underlying3 g1
    obtain ⟨a2, e2, -, w2⟩ := DataW.trod_int Tryd.underlying3 g2
    obtain ⟨a3, e3, -, w3⟩ := DataW.trod_int Tryd.underlying3 g3
    obtain ⟨a4, e4, -, w4⟩ := DataW.trod_int Tryd.underlying3 g4
    obtain ⟨a5, e5, -, w5⟩ := DataW.trod_int Tryd.underlying3 g5
    obtain ⟨a6, e6, -, w6⟩ := DataW.trod_int Tryd.underlying3 g6
    obtain ⟨a7, e7, -, w7⟩ := DataW.trod_int Tryd.underlying3 g7
    obtain ⟨a8, e8, -, w8⟩ := DataW.trod_int Tryd.underlying3 g8
    injection e0 with e0; injection e1 with e1; injection e2 with e2; injection e3 with e3; injection e4 with e4; injection e5 with e5; injection e6 with e6; injection e7 with e7; injection e8 with e8
    subst e0; subst e1; subst e2; subst e3; subst e4; subst e5; subst e6; subst e7; subst e8
    refine ⟨⟨a0, a1, a2, a3, a4, a5, a6, a7, a8⟩, rfl, ?_⟩
    intro z hz
    simp only [List.mem_cons, List.not_mem_nil, or_false] at hz
    rcases hz with rfl | rfl | rfl | rfl | rfl | rfl | rfl | rfl <;> assumption
end
end Go.Proofs.YtgohfbfdhdepnaaDoor

namespace Go.Proofs.YtgohfbfdhdepnaaDoor
open Go.ChangeShapes Go.WideShapes Go.ChangeAt Go.RowKit

def laidL : List (String × DataW Unit) := [("jetsam/coded.limits", Rows.laid_jetsam_coded_limits), ("jetsam/header.blocks", Rows.laid_jetsam_header_blocks), ("jetsam/header.rates", Rows.laid_jetsam_header_rates), ("jetsam/header.depths", Rows.laid_jetsam_header_depths)]
theorem gLim : Tryd.prog.globalNamed "jetsam/coded.limits" = some 3 := by kernel_rfl
theorem tLim : (Tryd.prog.globals[3]?).map (·.type) = some 64 := by kernel_rfl
theorem gBlk : Tryd.prog.globalNamed "jetsam/header.blocks" = some 0 := by kernel_rfl
theorem tBlk : (Tryd.prog.globals[0]?).map (·.type) = some 57 := by kernel_rfl
theorem gRat : Tryd.prog.globalNamed "jetsam/header.rates" = some 1 := by kernel_rfl
theorem tRat : (Tryd.prog.globals[1]?).map (·.type) = some 57 := by kernel_rfl
theorem gDep : Tryd.prog.globalNamed "jetsam/header.depths" = some 2 := by kernel_rfl
theorem tDep : (Tryd.prog.globals[2]?).map (·.type) = some 64 := by kernel_rfl
/-- The door's own heap meets the condition. -/
theorem door_met (os : Os) (args : Array Value) : laidMetH Tryd.prog laidL ((World.doorLaid Tryd.prog 29 os).forCall (fun _ _ => 0) ⟨#[], args, []⟩).memory :=
  laidMetH_of_parts3 (fuel := 8) (laidMet_of_run' 8 (by kernel_rfl) (by kernel_rfl)) (by kernel_rfl) (by kernel_rfl)
theorem of_laid {W : World} (h : laidMetH Tryd.prog laidL W) : HTabs W := by
  rw [MakeChecks.laidMetH_plain _ _ _ (by kernel_rfl)] at h
  have h0 : Lib.TabIs Tryd.prog W "jetsam/coded.limits" .i64 C3.limL := Lib.tabIs_of_head gLim tLim Tryd.underlying64 Tryd.underlying3 (by kernel_rfl) (by kernel_rfl) (rest := _) h
  obtain ⟨ps, h1⟩ := laidMet.tail h
  have hb : Lib.TabIs Tryd.prog W "jetsam/header.blocks" .i64 blkL := Lib.tabIs_of_head gBlk tBlk Tryd.underlying57 Tryd.underlying3 (by kernel_rfl) (by kernel_rfl) (rest := _) ⟨ps, h1⟩
  obtain ⟨ps2, h2⟩ := laidMet.tail (show laidMet _ _ _ from ⟨ps, h1⟩)
  have hr : Lib.TabIs Tryd.prog W "jetsam/header.rates" .i64 ratL := Lib.tabIs_of_head gRat tRat Tryd.underlying57 Tryd.underlying3 (by kernel_rfl) (by kernel_rfl) (rest := _) ⟨ps2, h2⟩
  obtain ⟨ps3, h3⟩ := laidMet.tail (show laidMet _ _ _ from ⟨ps2, h2⟩)
  have hd : Lib.TabIs Tryd.prog W "jetsam/header.depths" .i64 depL := Lib.tabIs_of_head gDep tDep Tryd.underlying64 Tryd.underlying3 (by kernel_rfl) (by kernel_rfl) (rest := _) ⟨ps3, h3⟩
  exact ⟨fun i hi => hb.cell gBlk i hi, fun i hi => hr.cell gRat i hi, fun i hi => hd.cell gDep i hi, fun i hi => h0.cell gLim i hi⟩
end Go.Proofs.YtgohfbfdhdepnaaDoor

namespace Go.Proofs.YtgohfbfdhdepnaaDoor.Crc
open Go.Proofs.YtgohfbfdhdepnaaDoor

/-- Bit k of bytes, turned. -/
def flip (l : List UInt8) (k : Nat) : List UInt8 := l.set (k / 8) ((l.getD (k / 8) 0) ^^^ UInt8.ofNat (128 / 2 ^ (k % 8)))
theorem flip_length (l : List UInt8) (k : Nat) : (flip l k).length = l.length := by simp [flip]
/-- Bytes behind so many rounds of damage: 16 bits from a place on. -/
def dmg (l : List UInt8) (at_ d : Nat) : Nat → List UInt8
  | 0 => l
  | i + 1 => if d / 2 ^ (15 - i) % 2 = 1 ∧ at_ + i < 8 * l.length then flip (dmg l at_ d i) (at_ + i) else dmg l at_ d i
theorem dmg_length (l : List UInt8) (at_ d i : Nat) : (dmg l at_ d i).length = l.length := by
  induction i with
  | zero => rfl
  | succ i ih => unfold dmg; split <;> simp [flip_length, ih]
def turned (l : List UInt8) (at_ d : Nat) : Nat → Bool
  | 0 => false
  | i + 1 => if d / 2 ^ (15 - i) % 2 = 1 ∧ at_ + i < 8 * l.length then true else turned l at_ d i
def wide (l : List UInt8) (at_ d : Nat) : Nat → Bool
  | 0 => false
  | i + 1 => if d / 2 ^ (15 - i) % 2 = 1 ∧ at_ + i < 8 * l.length then wide l at_ d i || decide (8 ≤ i) else wide l at_ d i

section
variable {W M P p : Nat}
theorem Pm.it_zero (h : Pm W M P p) (k : Nat) : it (L M P) k 0 = 0 := by
  induction k with
  | zero => rfl
  | succ k ih =>
    show L M P (it (L M P) k 0) = 0
    rw [ih]
    have := h.pos
    unfold L
    rw [if_neg (by omega)]
/-- The step is one to one. (p is odd.) -/
theorem Pm.L_ne (h : Pm W M P p) (ho : p % 2 = 1) (s : Nat) (hs : s < M) (h0 : s ≠ 0) : L M P s ≠ 0 := by
  unfold L
  split
  · intro e
    have : (2 * s) ^^^ P = 0 := e
    have h1 : 2 * s = P := by
      have := congrArg (· ^^^ P) this
      simpa [Nat.xor_assoc] using this
    have hM2 : M % 2 = 0 := by
      rw [h.m]
      have : W = (W - 1) + 1 := by have := h.w; omega
      rw [this, Nat.pow_succ]; omega
    have := h.s
    omega
  · omega
theorem Pm.it_ne (h : Pm W M P p) (ho : p % 2 = 1) (k s : Nat) (hs : s < M) (h0 : s ≠ 0) : it (L M P) k s ≠ 0 := by
  induction k with
  | zero => exact h0
  | succ k ih => exact h.L_ne ho _ (h.it_lt k s hs) ih
theorem Pm.nxt_xor (h : Pm W M P p) (s x y : Nat) (hs : s < M) (hx : x < 256) (hy : y < 256) : nxt M P (2 ^ (W - 8)) s (x ^^^ y) = nxt M P (2 ^ (W - 8)) s x ^^^ it (L M P) W y := by
  have hxy : x ^^^ y < 256 := Nat.xor_lt_two_pow (n := 8) hx hy
  have hb : ∀ z, z < 256 → z * 2 ^ (W - 8) < M := fun z hz => by rw [h.K]; exact Nat.mul_lt_mul_of_pos_right hz (Nat.two_pow_pos _)
  rw [h.nxt_eq s _ hs hxy, h.nxt_eq s x hs hx, mul_pow_xor, ← Nat.xor_assoc, h.it_xor 8 _ _ (h.xor_lt hs (hb x hx)) (hb y hy), ← it_low (M := M) (P := P) (W - 8) y (hb y hy), ← it_add]
  congr 2
  have := h.w
  omega
/-- One byte turned. -/
theorem Pm.crc_set (h : Pm W M P p) (y : UInt8) : ∀ (l : List UInt8) (j s : Nat), s < M → j < l.length →
    crc M P (2 ^ (W - 8)) s (l.set j (l.getD j 0 ^^^ y)) = crc M P (2 ^ (W - 8)) s l ^^^ it (L M P) (8 * (l.length - 1 - j) + W) y.toNat
  | [], j, s, _, hj => by simp at hj
  | x :: l, 0, s, hs, _ => by
    have hx : x.toNat < 256 := by have := x.toNat_lt; omega
    have hy : y.toNat < 256 := by have := y.toNat_lt; omega
    have hp := h.pos
    show crc M P _ (nxt M P _ s (x ^^^ y).toNat) l = crc M P _ (nxt M P _ s x.toNat) l ^^^ _
    rw [UInt8.toNat_xor, h.nxt_xor s _ _ hs hx hy, h.join l _ (h.xor_lt (h.nxt_lt s _ hs hx) (h.it_lt W _ (by omega))), h.join l (nxt M P (2 ^ (W - 8)) s x.toNat) (h.nxt_lt s _ hs hx),
      h.it_xor _ _ _ (h.nxt_lt s _ hs hx) (h.it_lt W _ (by omega)), ← it_add]
    simp only [List.length_cons, Nat.add_sub_cancel, Nat.sub_zero]
    rw [Nat.xor_assoc, Nat.xor_assoc, Nat.xor_comm (crc M P (2 ^ (W - 8)) 0 l)]
  | x :: l, j + 1, s, hs, hj => by
    have hx : x.toNat < 256 := by have := x.toNat_lt; omega
    show crc M P _ (nxt M P _ s x.toNat) (l.set j (l.getD j 0 ^^^ y)) = crc M P _ (nxt M P _ s x.toNat) l ^^^ _
    rw [h.crc_set y l j _ (h.nxt_lt s _ hs hx) (by simpa using hj)]
    congr 3
    simp only [List.length_cons]
    omega
theorem Pm.crc_flip (h : Pm W M P p) (l : List UInt8) (k : Nat) (hk : k < 8 * l.length) :
    crc M P (2 ^ (W - 8)) 0 (flip l k) = crc M P (2 ^ (W - 8)) 0 l ^^^ it (L M P) (8 * l.length - 1 - k + W) 1 := by
  have hp := h.pos
  have h7 : 128 / 2 ^ (k % 8) = 1 * 2 ^ (7 - k % 8) := by
    have : k % 8 = 0 ∨ k % 8 = 1 ∨ k % 8 = 2 ∨ k % 8 = 3 ∨ k % 8 = 4 ∨ k % 8 = 5 ∨ k % 8 = 6 ∨ k % 8 = 7 := by omega
    rcases this with e | e | e | e | e | e | e | e <;> rw [e] <;> decide
  have h8 : (2 : Nat) ^ (7 - k % 8) ≤ 2 ^ 7 := Nat.pow_le_pow_right (by decide) (by omega)
  unfold flip
  rw [h.crc_set _ l (k / 8) 0 (by omega) (by omega)]
  congr 1
  rw [UInt8.toNat_ofNat', h7, Nat.mod_eq_of_lt (by omega), ← it_low (M := M) (P := P) (7 - k % 8) 1 (by omega), ← it_add]
  congr 1
  omega
/-- What so many rounds of damage turn. -/
theorem Pm.crc_dmg (h : Pm W M P p) (l : List UInt8) (at_ d : Nat) : ∀ i, i ≤ W → i ≤ 16 → at_ + i ≤ 8 * l.length →
    crc M P (2 ^ (W - 8)) 0 (dmg l at_ d i) = crc M P (2 ^ (W - 8)) 0 l ^^^ it (L M P) (8 * l.length - (at_ + i) + W) (d / 2 ^ (16 - i) % 2 ^ i)
  | 0, _, _, _ => by simp [dmg, Nat.mod_one, h.it_zero]
  | i + 1, hi, h16, hat => by
    have hp := h.pos
    have ih := h.crc_dmg l at_ d i (by omega) (by omega) (by omega)
    have e1 : 16 - i = (15 - i) + 1 := by omega
    have e2 : 16 - (i + 1) = 15 - i := by omega
    have hq : d / 2 ^ (16 - i) % 2 ^ i < 2 ^ i := Nat.mod_lt _ (Nat.two_pow_pos i)
    have hM : 2 ^ (i + 1) ≤ M := by rw [h.m]; exact Nat.pow_le_pow_right (by decide) hi
    have h2i : 2 ^ (i + 1) = 2 * 2 ^ i := by rw [Nat.pow_succ]; omega
    have hsplit : d / 2 ^ (15 - i) % 2 ^ (i + 1) = 2 * (d / 2 ^ (16 - i) % 2 ^ i) + d / 2 ^ (15 - i) % 2 := by
      rw [e1, Nat.pow_succ 2 (15 - i), ← Nat.div_div_eq_div_mul, h2i, Nat.mod_mul]
      omega
    have hb : d / 2 ^ (15 - i) % 2 ≤ 1 := by omega
    have hstep : it (L M P) (8 * l.length - (at_ + i) + W) (d / 2 ^ (16 - i) % 2 ^ i) = it (L M P) (8 * l.length - (at_ + (i + 1)) + W) (2 * (d / 2 ^ (16 - i) % 2 ^ i)) := by
      have : 8 * l.length - (at_ + i) + W = (8 * l.length - (at_ + (i + 1)) + W) + 1 := by omega
      rw [this, it_add]
      congr 1
      show L M P _ = _
      unfold L
      rw [if_neg (by show ¬ M ≤ 2 * (d / 2 ^ (16 - i) % 2 ^ i); omega)]
      rfl
    rw [e2, hsplit, add_bit _ _ hb, h.it_xor _ _ _ (by omega) (by omega), ← hstep]
    unfold dmg
    by_cases c : d / 2 ^ (15 - i) % 2 = 1
    · rw [if_pos ⟨c, by omega⟩, h.crc_flip _ _ (by rw [dmg_length]; omega), ih, dmg_length, c, Nat.xor_assoc]
      congr 3
      omega
    · rw [if_neg (fun h => c h.1), ih, show d / 2 ^ (15 - i) % 2 = 0 from by omega, h.it_zero, Nat.xor_zero]
theorem stay (l : List UInt8) (at_ d i : Nat) : ∀ n, (∀ k, i ≤ k → k < i + n → ¬ (d / 2 ^ (15 - k) % 2 = 1 ∧ at_ + k < 8 * l.length)) →
    dmg l at_ d (i + n) = dmg l at_ d i ∧ turned l at_ d (i + n) = turned l at_ d i
  | 0, _ => ⟨rfl, rfl⟩
  | n + 1, h => by
    have ih := stay l at_ d i n (fun k h1 h2 => h k h1 (by omega))
    have hc := h (i + n) (by omega) (by omega)
    have h1 : dmg l at_ d (i + (n + 1)) = dmg l at_ d (i + n) := if_neg hc
    have h2 : turned l at_ d (i + (n + 1)) = turned l at_ d (i + n) := if_neg hc
    rw [h1, h2]
    exact ih
theorem turned_iff (l : List UInt8) (at_ d : Nat) : ∀ i, i ≤ 16 → at_ + i ≤ 8 * l.length → turned l at_ d i = decide (d / 2 ^ (16 - i) % 2 ^ i ≠ 0)
  | 0, _, _ => by simp [turned, Nat.mod_one]
  | i + 1, h16, hat => by
    have ih := turned_iff l at_ d i (by omega) (by omega)
    have e1 : 16 - i = (15 - i) + 1 := by omega
    have e2 : 16 - (i + 1) = 15 - i := by omega
    have h2i : 2 ^ (i + 1) = 2 * 2 ^ i := by rw [Nat.pow_succ]; omega
    have hsplit : d / 2 ^ (15 - i) % 2 ^ (i + 1) = 2 * (d / 2 ^ (16 - i) % 2 ^ i) + d / 2 ^ (15 - i) % 2 := by
      rw [e1, Nat.pow_succ 2 (15 - i), ← Nat.div_div_eq_div_mul, h2i, Nat.mod_mul]
      omega
    unfold turned
    rw [e2, hsplit]
    by_cases c : d / 2 ^ (15 - i) % 2 = 1
    · rw [if_pos ⟨c, by omega⟩]; simp; omega
    · rw [if_neg (fun h => c h.1), ih]
      congr 1
      simp
      omega
theorem wide_false (l : List UInt8) (at_ d : Nat) : ∀ i, wide l at_ d i = false → ∀ k, 8 ≤ k → k < i → ¬ (d / 2 ^ (15 - k) % 2 = 1 ∧ at_ + k < 8 * l.length)
  | 0, _, k, _, h => by omega
  | i + 1, h, k, h8, hk => by
    unfold wide at h
    split at h
    · simp at h
      by_cases e : k = i
      · omega
      · exact wide_false l at_ d i h.1 k h8 (by omega)
    · by_cases e : k = i
      · subst e; assumption
      · exact wide_false l at_ d i h k h8 (by omega)
theorem Pm.sees (h : Pm W M P p) (ho : p % 2 = 1) (l : List UInt8) (at_ d i : Nat) (hi : i ≤ W) (h16 : i ≤ 16) (hat : at_ ≤ 8 * l.length)
    (hs : ∀ k, i ≤ k → k < 16 → ¬ (d / 2 ^ (15 - k) % 2 = 1 ∧ at_ + k < 8 * l.length)) :
    (crc M P (2 ^ (W - 8)) 0 (dmg l at_ d 16) = crc M P (2 ^ (W - 8)) 0 l) ↔ turned l at_ d 16 = false := by
  have hp := h.pos
  obtain ⟨j, hj1, hj2, hj3⟩ : ∃ j, j ≤ i ∧ at_ + j ≤ 8 * l.length ∧ ∀ k, j ≤ k → k < 16 → ¬ (d / 2 ^ (15 - k) % 2 = 1 ∧ at_ + k < 8 * l.length) := by
    by_cases c : at_ + i ≤ 8 * l.length
    · exact ⟨i, Nat.le_refl _, c, hs⟩
    · exact ⟨8 * l.length - at_, by omega, by omega, fun k h1 _ h3 => by omega⟩
  have hst := stay l at_ d j (16 - j) (fun k h1 h2 => hj3 k h1 (by omega))
  rw [show j + (16 - j) = 16 from by omega] at hst
  rw [hst.1, hst.2, h.crc_dmg l at_ d j (by omega) (by omega) hj2, turned_iff l at_ d j (by omega) hj2]
  have hq : d / 2 ^ (16 - j) % 2 ^ j < 2 ^ j := Nat.mod_lt _ (Nat.two_pow_pos j)
  have hM : 2 ^ j ≤ M := by rw [h.m]; exact Nat.pow_le_pow_right (by decide) (by omega)
  by_cases c : d / 2 ^ (16 - j) % 2 ^ j = 0
  · rw [c, h.it_zero]; simp
  · have hne := h.it_ne ho (8 * l.length - (at_ + j) + W) _ (by omega) c
    constructor
    · intro e
      have : it (L M P) (8 * l.length - (at_ + j) + W) (d / 2 ^ (16 - j) % 2 ^ j) = 0 := by
        have := congrArg (crc M P (2 ^ (W - 8)) 0 l ^^^ ·) e
        simpa [← Nat.xor_assoc] using this
      exact absurd this hne
    · intro e
      simp at e
      exact absurd e c
end
end Go.Proofs.YtgohfbfdhdepnaaDoor.Crc

namespace Go.Proofs.YtgohfbfdhdepnaaDoor
open Go.RowKit

theorem own_set {w : World} {base : Nat} {e : TypeId} {g n cap i : Nat} {xs : List Value} (u : Value) (h : w.ownsRow base e 1 (.slice (some ⟨g, 0, none⟩) n cap) n xs) :
    (w.setCell ⟨g, i, none⟩ u).ownsRow base e 1 (.slice (some ⟨g, 0, none⟩) n cap) n (xs.set i u) := by
  refine ⟨by rw [List.length_set]; exact h.1, ?_⟩
  rcases h.2 with ⟨h1, -⟩ | ⟨g', cap', cur, h1, h2, h3, h4, h5, h6, h7⟩
  · cases h1
  · injection h1 with h8 h9 h10
    injection h8 with h8
    injection h8 with h8
    subst h8 h10
    refine .inr ⟨g, cap, cur.setIfInBounds i u, rfl, h2, heap_setCell_same w g i cur e u h3, h4, h5, by simpa using h6, ?_⟩
    rw [Array.toList_setIfInBounds, ← h7]
    simp [List.take_set]
theorem own_block {w : World} {base : Nat} {e : TypeId} {g n cap : Nat} {xs : List Value} (h : w.ownsRow base e 1 (.slice (some ⟨g, 0, none⟩) n cap) n xs) : ∃ cur, w.heap[g]? = some (.cells cur e (0, 0)) ∧ base ≤ g := by
  rcases h.2 with ⟨h1, -⟩ | ⟨g', cap', cur, h1, h2, h3, h4, h5, h6, h7⟩
  · cases h1
  · injection h1 with h8 h9 h10
    injection h8 with h8
    injection h8 with h8
    subst h8 h10
    exact ⟨cur, h3, h2⟩
theorem bv_flip (L : List UInt8) (k : Nat) (hidx : k / 8 < L.length) : bv (Crc.flip L k) = (bv L).set (k / 8) (.int .u8 (bits .xor .u8 ((L[k / 8]).toNat : Int) (128 / 2 ^ (k % 8)))) := by
  have e : (128 : Int) / 2 ^ (k % 8) = ((128 / 2 ^ (k % 8) : Nat) : Int) := by simp
  have h128 : 128 / 2 ^ (k % 8) < 256 := Nat.lt_of_le_of_lt (Nat.div_le_self _ _) (by decide)
  rw [e, u8_xor_nat _ _ (by have := (L[k / 8]).toNat_lt; omega) h128]
  unfold Crc.flip bv
  rw [List.map_set]
  congr 2
  rw [UInt8.toNat_xor, UInt8.toNat_ofNat', Nat.mod_eq_of_lt h128]
  simp [List.getD, hidx]
theorem high_bits (d k : Nat) (h8 : 8 ≤ k) (h16 : k < 16) : 256 * d / 2 ^ (15 - k) % 2 = 0 := by
  have hk : k = 8 ∨ k = 9 ∨ k = 10 ∨ k = 11 ∨ k = 12 ∨ k = 13 ∨ k = 14 ∨ k = 15 := by omega
  rcases hk with rfl | rfl | rfl | rfl | rfl | rfl | rfl | rfl <;> simp only [Nat.reduceSub, Nat.reducePow] <;> omega
theorem low_bits (d j : Nat) (hj : j < 8) : 256 * d / 2 ^ (15 - j) % 2 = d / 2 ^ (7 - j) % 2 := by
  rw [show 15 - j = 8 + (7 - j) from by omega, Nat.pow_add, ← Nat.div_div_eq_div_mul, show 256 * d / 2 ^ 8 = d from Nat.mul_div_cancel_left d (by decide)]
theorem dmg_same (l : List UInt8) (k d : Nat) : ∀ j, Crc.turned l k d j = false → Crc.dmg l k d j = l
  | 0, _ => rfl
  | j + 1, h => by
    unfold Crc.turned at h
    unfold Crc.dmg
    split at h
    · cases h
    · rename_i hc
      rw [if_neg hc]
      exact dmg_same l k d j h
/-- Damage that turned something is seen. -/
theorem sees_law {h : Hd} (hc : chkE h = 0) (k d : Nat) (hk : k ≤ 8 * (hdB h).length) (ht : Crc.turned (hdB h) k (256 * d) 8 = true) {x : Hd} {n : Nat} {f : Int} (R : ReadRel (Crc.dmg (hdB h) k (256 * d) 8) x n f) : f ≠ 0 ∨ n ≠ (hdB h).length := by
  have hst := Crc.stay (hdB h) k (256 * d) 8 8 (fun i h1 h2 hh => by have := high_bits d i h1 (by omega); omega)
  have hs := Crc.p8.sees (by decide) (hdB h) k (256 * d) 8 (by omega) (by omega) hk (fun i h1 h2 hh => by have := high_bits d i h1 h2; omega)
  rw [← C2.crc8_eq, ← C2.crc8_eq] at hs
  rw [show 8 + 8 = 16 from rfl] at hst
  rw [hst.1, hst.2] at hs
  have h0 : C2.crc8 0 (hdB h) = 0 := C2.seal8 _
  rcases read_ok R with ⟨h1, -, -⟩ | ⟨-, -, -, -, -, h2, -⟩
  · exact .inl h1
  · right
    rintro rfl
    rw [List.take_of_length_le (by rw [Crc.dmg_length]; exact Nat.le_refl _)] at h2
    have h3 : C2.crc8 0 (hdB x) = 0 := C2.seal8 _
    rw [h2] at h3
    have := hs.1 (h3.trans h0.symm)
    rw [ht] at this
    cases this
end Go.Proofs.YtgohfbfdhdepnaaDoor

namespace Go.Proofs.YtgohfbfdhdepnaaDoor
open Go.RowKit

noncomputable def seBody : Code := (Tryd.f7.body).getD .skip

set_option maxRecDepth 1000000 in
set_option maxHeartbeats 4000000 in
theorem seTail (V : Bool) (bc rc m dc n b r d : Int) (L : Nat) (A1 : Option Addr) (c1 : Nat) (D : List UInt8) (A2 : Option Addr) (c2 : Nat) (tu : Bool) (w W : World) (HB : Hid (Below w.heap.size w W)) (HB1 : Hid (HdAt W w.heap.size ⟨V, bc, rc, m, dc, n, b, r, d⟩)) (HR : Hid (Rd W A2 (bv D))) (HL : Hid (D.length = L)) (hD : L ≤ 100) (hc2 : L ≤ c2) (Hn : Hid (A2 = none → L = 0 ∧ c2 = 0)) (HT : Hid (HTabs w))
    (HK : Hid (∀ x nn f, ReadRel D x nn f → (tu = false → x = ⟨V, bc, rc, m, dc, n, b, r, d⟩ ∧ f = 0) ∧ (tu = true → f ≠ 0 ∨ nn ≠ L)))
    (u0 u1 u2 u4 u5 u6 u8 u11 u12 u13 u14 u15 u16 u17 u18 u19 u20 u21 u22 u23 u24 u25 u26 u27 u28 u29 u30 u31 u32 u33 u34 u35 u36 u37 u38 u39 u40 u41 u42 u43 u44 u45 u46 u47 u48 u49 u50 u51 u52 u53 u54 u55 u56 u57 u58 u59 u60 u61 u62 u63 u64 u65 u66 u67 u68 u69 u70 u71 u72 u73 u74 u75 u76 u77 u78 u79 u80 u81 u82 u83 u84 u85 u86 u87 u88 u89 u90 u91 u92 u93 u94 u95 u96 u97 u98 u99 u100 u101 u102 u103 u104 u105 u106 u107 : Value) :
    Code.wp Tryd.prog (cdrC 7 seBody) (bodyPost Tryd.prog Tryd.f7 fun e w' => e = .returned (.bool true) ∧ Below w.heap.size w w') ⟨#[u0, u1, u2, .pointer (some ⟨w.heap.size, 0, none⟩), u4, u5, u6, .slice A1 L c1, u8, .slice A2 L c2, .bool tu, u11, u12, u13, u14, u15, u16, u17, u18, u19, u20, u21, u22, u23, u24, u25, u26, u27, u28, u29, u30, u31, u32, u33, u34, u35, u36, u37, u38, u39, u40, u41, u42, u43, u44, u45, u46, u47, u48, u49, u50, u51, u52, u53, u54, u55, u56, u57, u58, u59, u60, u61, u62, u63, u64, u65, u66, u67, u68, u69, u70, u71, u72, u73, u74, u75, u76, u77, u78, u79, u80, u81, u82, u83, u84, u85, u86, u87, u88, u89, u90, u91, u92, u93, u94, u95, u96, u97, u98, u99, u100, u101, u102, u103, u104, u105, u106, u107], []⟩ W := by
  conv => arg 2; whnf
  have HA := Lib.hid (fun W (hb : Below w.heap.size w W) => awake_any W (HT.out.below hb))
  have HRd := Lib.hid (Read_any D A2 c2 W HR.out (by rw [HL.out]; omega) (by rw [HL.out]; exact hc2) (by rw [HL.out]; exact Hn.out) (HT.out.below HB.out))
  rw [HL.out] at HRd
  have HB2 := Lib.hid (fun W' (hb : Below W.heap.size W W') => HB1.out.below hb)
  clear HR Hn
  go_wp2_with fail
  refine HRd.out.mono ?_
  rintro z w1 ⟨x, nn, f, rfl, R, hb1⟩
  obtain ⟨hk0, hk1⟩ := HK.out x nn f R
  have HB3 := Lib.hid (HB2.out w1 hb1)
  have Hb1 := Lib.hid (bnext HB.out hb1)
  clear HRd hb1 R HK HB2 HB HB1
  cases tu
  · obtain ⟨rfl, rfl⟩ := hk0 rfl
    clear hk0 hk1
    have HB5 : Hid (HdAt (w1.alloc (.cells (Hd.cells ⟨V, bc, rc, m, dc, n, b, r, d⟩) 23)) w.heap.size ⟨V, bc, rc, m, dc, n, b, r, d⟩) := hrow_alloc HB3.out _
    have HX5 : Hid (HdAt (w1.alloc (.cells (Hd.cells ⟨V, bc, rc, m, dc, n, b, r, d⟩) 23)) w1.heap.size ⟨V, bc, rc, m, dc, n, b, r, d⟩) := heap_alloc_last w1 _
    have Hb5 : Hid (Below w.heap.size w (w1.alloc (.cells (Hd.cells ⟨V, bc, rc, m, dc, n, b, r, d⟩) 23))) := bal Hb1.out _
    simp only [Hd.cells] at HB5 HX5 Hb5
    simp only [Hd.val]
    go_upto_region 15 with fail
    generalize w1.alloc (.cells #[.bool V, .int .i64 bc, .int .i64 rc, .int .i64 m, .int .i64 dc, .int .i64 n, .int .i64 b, .int .i64 r, .int .i64 d] 23) = w5 at *
    clear HB3 Hb1
    go_wp2_with (first | (refine wpList_load_row_g rfl 23 _ rfl w1.heap.size rfl 23 #[.bool V, .int .i64 bc, .int .i64 rc, .int .i64 m, .int .i64 dc, .int .i64 n, .int .i64 b, .int .i64 r, .int .i64 d] (0, 0) _ HX5.out Tryd.underlying23 rfl (by kernel_rfl) ?_) | (refine wpList_load_row_g rfl 23 _ rfl w.heap.size rfl 23 #[.bool V, .int .i64 bc, .int .i64 rc, .int .i64 m, .int .i64 dc, .int .i64 n, .int .i64 b, .int .i64 r, .int .i64 d] (0, 0) _ HB5.out Tryd.underlying23 rfl (by kernel_rfl) ?_))
    refine (HA.out _ Hb5.out).mono ?_
    rintro e w4 ⟨rfl, hb4⟩
    have Hb4 := Lib.hid (bnext Hb5.out hb4)
    clear hb4 HA
    go_wp2_with fail
    go_ret
    exact ⟨rfl, Hb4.out⟩
  · have hk := hk1 rfl
    obtain ⟨V2, bc2, rc2, m2, dc2, n2, b2, r2, d2⟩ := x
    simp only [Hd.val]
    clear hk0 hk1
    by_cases hf : f = 0
    · have hne : ¬ (nn : Int) = L := by rcases hk with h | h <;> omega
      have hne' : ((nn : Int) != (L : Int)) = true := by rw [bne_iff_ne]; exact hne
      subst hf
      clear hk hne
      go_wp2_with fail
      refine (HA.out _ (bal Hb1.out _)).mono ?_
      rintro e w4 ⟨rfl, hb4⟩
      have Hb4 := Lib.hid (bnext (bal Hb1.out _) hb4)
      clear hb4 HA
      go_wp2_with fail
      go_ret
      exact ⟨rfl, Hb4.out⟩
    · have hf' : (f != 0) = true := by rw [bne_iff_ne]; exact hf
      clear hk
      go_wp2_with fail
      refine (HA.out _ (bal Hb1.out _)).mono ?_
      rintro e w4 ⟨rfl, hb4⟩
      have Hb4 := Lib.hid (bnext (bal Hb1.out _) hb4)
      clear hb4 HA
      go_wp2_with fail
      go_ret
      exact ⟨rfl, Hb4.out⟩
end Go.Proofs.YtgohfbfdhdepnaaDoor

namespace Go.Proofs.YtgohfbfdhdepnaaDoor
open Go.RowKit

set_option maxRecDepth 1000000 in
set_option maxHeartbeats 4000000 in
theorem seLoop (V : Bool) (bc rc m dc n b r dd : Int) (FF : List UInt8) (hF0 : 0 < FF.length) (hFl : FF.length ≤ 16) (A1 : Option Addr) (c1 g cap k d : Nat) (hk : k < 8 * FF.length) (Hd : Hid (d < 256)) (w w1 w2 : World) (Hb1 : Hid (Below w.heap.size w w1)) (Hb2 : Hid (Below w1.heap.size w1 w2)) (HB1 : Hid (HdAt w1 w.heap.size ⟨V, bc, rc, m, dc, n, b, r, dd⟩))
    (Hown : Hid (w2.ownsRow w1.heap.size 5 1 (.slice (some ⟨g, 0, none⟩) FF.length cap) FF.length (bv FF))) (hg : w1.heap.size ≤ g) (HT : Hid (HTabs w))
    (HP : Hid (∀ x nn f, ReadRel FF x nn f → x = ⟨V, bc, rc, m, dc, n, b, r, dd⟩ ∧ f = 0))
    (HS : Hid (Crc.turned FF k (256 * d) 8 = true → ∀ x nn f, ReadRel (Crc.dmg FF k (256 * d) 8) x nn f → f ≠ 0 ∨ nn ≠ FF.length))
    (u0 u4 u5 u6 u8 u11 u12 u13 u14 u15 u16 u17 u18 u19 u20 u21 u22 u23 u24 u25 u26 u27 u28 u29 u30 u31 u32 u33 u34 u35 u36 u37 u38 u39 u40 u41 u42 u43 u44 u45 u46 u47 u48 u49 u50 u51 u52 u53 u54 u55 u56 u57 u58 u59 u60 u61 u62 u63 u64 u65 u66 u67 u68 u69 u70 u71 u72 u73 u74 u75 u76 u77 u78 u79 u80 u81 u82 u83 u84 u85 u86 u87 u88 u89 u90 u91 u92 u93 u94 u95 u96 u97 u98 u99 u100 u101 u102 u103 u104 u105 u106 u107 : Value) :
    Code.wp Tryd.prog (cdrC 6 seBody) (bodyPost Tryd.prog Tryd.f7 fun e w' => e = .returned (.bool true) ∧ Below w.heap.size w w') ⟨#[u0, .int .i64 k, .int .i64 d, .pointer (some ⟨w.heap.size, 0, none⟩), u4, u5, u6, .slice A1 FF.length c1, u8, .slice (some ⟨g, 0, none⟩) FF.length cap, .bool false, u11, u12, u13, u14, u15, u16, u17, u18, u19, u20, u21, u22, u23, u24, u25, u26, u27, u28, u29, u30, u31, u32, u33, u34, u35, u36, u37, u38, u39, u40, u41, u42, u43, u44, u45, u46, u47, u48, u49, u50, u51, u52, u53, u54, u55, u56, u57, u58, u59, u60, u61, u62, u63, u64, u65, u66, u67, u68, u69, u70, u71, u72, u73, u74, u75, u76, u77, u78, u79, u80, u81, u82, u83, u84, u85, u86, u87, u88, u89, u90, u91, u92, u93, u94, u95, u96, u97, u98, u99, u100, u101, u102, u103, u104, u105, u106, u107], []⟩ w2 := by
  conv => arg 2; whnf
  have hcap : FF.length ≤ cap := by
    obtain ⟨A, c, e, h1, -⟩ := own_rd Hown.out
    injection e with e1 e2 e3
    omega
  go_step
  go_step
  dsimp only
  go_cut [10] (fun v wx => v = .bool (Crc.turned FF k (256 * d) 8) ∧ Hid (wx.ownsRow w1.heap.size 5 1 (.slice (some ⟨g, 0, none⟩) FF.length cap) FF.length (bv (Crc.dmg FF k (256 * d) 8))) ∧ Below w1.heap.size w1 wx)
  case rest =>
    obtain ⟨rfl, hown, hb⟩ := hcut
    go_step
    obtain ⟨A, c, e, h1, h2⟩ := own_rd hown.out
    injection e with e1 e2 e3
    subst e1 e3
    exact seTail V bc rc m dc n b r dd FF.length A1 c1 (Crc.dmg FF k (256 * d) 8) _ _ (Crc.turned FF k (256 * d) 8) w _ (bnext Hb1.out hb) (HB1.out.below hb) h2 (Crc.dmg_length _ _ _ _) (by omega) h1 (fun h => by cases h) HT
      (fun x nn f R => ⟨fun h => by rw [dmg_same _ _ _ _ h] at R; exact HP.out x nn f R, fun h => HS.out h x nn f R⟩) _ _ _ _ _ _ _ _ _ _ _ _ _ _ _ _ _ _ _ _ _ _ _ _ _ _ _ _ _ _ _ _ _ _ _ _ _ _ _ _ _ _ _ _ _ _ _ _ _ _ _ _ _ _ _ _ _ _ _ _ _ _ _ _ _ _ _ _ _ _ _ _ _ _ _ _ _ _ _ _ _ _ _ _ _ _ _ _ _ _ _ _ _ _ _ _ _ _ _ _ _ _ _ _ 
  case first =>
    go_wp2_with fail
    go_loopw [10, 11] (fun v i wr => ∃ j : Nat, j ≤ 8 ∧ i = .int .i64 j ∧ v = .bool (Crc.turned FF k (256 * d) j) ∧ Hid (wr.ownsRow w1.heap.size 5 1 (.slice (some ⟨g, 0, none⟩) FF.length cap) FF.length (bv (Crc.dmg FF k (256 * d) j))) ∧ Below w1.heap.size w1 wr) (fun _ i _ => 8 - (intOf i).toNat)
    case atStart => exact ⟨0, by omega, rfl, rfl, Hown, Hb2.out⟩
    case round =>
      obtain ⟨j, hj, rfl, rfl, Hblk, hb⟩ := hrel
      by_cases hjj : j < 8
      · have hlow := low_bits d j hjj
        by_cases hbit : d / 2 ^ (7 - j) % 2 = 1
        · have E := and_one_int d (7 - j) (by have := Hd.out; omega)
          rw [hbit] at E
          by_cases hin : (k : Int) + j < 8 * FF.length
          · have hc1 : 256 * d / 2 ^ (15 - j) % 2 = 1 ∧ k + j < 8 * FF.length := ⟨by rw [hlow]; exact hbit, by omega⟩
            have Hdm : Hid (Crc.dmg FF k (256 * d) (j + 1) = Crc.flip (Crc.dmg FF k (256 * d) j) (k + j)) := if_pos hc1
            have Htu : Hid (Crc.turned FF k (256 * d) (j + 1) = true) := if_pos hc1
            have hi0 : (0 : Int) ≤ ((k : Int) + j) / 8 := by omega
            have hi1 : ((k : Int) + j) / 8 < FF.length := by omega
            have hlen := Crc.dmg_length FF k (256 * d) j
            have hidx : (k + j) / 8 < (Crc.dmg FF k (256 * d) j).length := by omega
            obtain ⟨x, hx⟩ : ∃ x : UInt8, x = (Crc.dmg FF k (256 * d) j)[(k + j) / 8] := ⟨_, rfl⟩
            obtain ⟨cur, hcur, -⟩ := own_block Hblk.out
            have hcell : wr.cell? ⟨g, (k + j) / 8, none⟩ = some (.int .u8 (x.toNat : Int)) := by
              obtain ⟨A, c, e, h1, h2⟩ := own_rd Hblk.out
              injection e with e1 e2 e3
              obtain ⟨b', o', e4, h5⟩ := h2 ((k + j) / 8) (.int .u8 (x.toNat : Int)) (by rw [hx]; exact bv_get _ _ hidx)
              rw [← e1] at e4
              injection e4 with e4
              injection e4 with e4 e5
              subst e4 e5
              rwa [Nat.zero_add] at h5
            have hfr : wr.frozen? ⟨g, (k + j) / 8, none⟩ = false := frozen_of_row _ _ _ _ _ hcur
            have HX : Hid (bv (Crc.dmg FF k (256 * d) (j + 1)) = (bv (Crc.dmg FF k (256 * d) j)).set ((k + j) / 8) (.int .u8 (bits .xor .u8 (x.toNat : Int) (128 / 2 ^ ((k + j) % 8))))) := by
              show _ = _
              rw [Hdm.out, bv_flip _ _ hidx, hx]
            clear hx hlen hidx hc1 hcur
            go_wp2_with fail
            have e1 : ((k : Int) + j).tdiv 8 = ((k : Int) + j) / 8 := Int.tdiv_eq_ediv_of_nonneg (by omega)
            have e2 : ((k : Int) + j).tmod 8 = ((k : Int) + j) % 8 := Int.tmod_eq_emod_of_nonneg (by omega)
            have e3 : IntKind.i64.wrap (((k : Int) + j) / 8) = ((k : Int) + j) / 8 := IntWalk.i64_in _ (by omega)
            have e4 : IntKind.i64.wrap (((k : Int) + j) % 8) = ((k : Int) + j) % 8 := IntWalk.i64_in _ (by omega)
            have e5 : (((k : Int) + j) / 8).toNat = (k + j) / 8 := by omega
            have e6 : (0 : Int) ≤ ((k : Int) + j) % 8 := by omega
            go_region
            go_wp2_with fail
            clear e1 e2 e3 e4 e5 e6
            refine ⟨⟨j + 1, by omega, by go_num, by rw [Htu.out], ?_, ?_⟩, by simp [intOf] <;> omega⟩
            · rw [HX.out]
              exact own_set _ Hblk.out
            · exact Below.drew (Below.setCell hb hg _)
          · have hc1 : ¬ (256 * d / 2 ^ (15 - j) % 2 = 1 ∧ k + j < 8 * FF.length) := fun h => by omega
            have Hdm : Hid (Crc.dmg FF k (256 * d) (j + 1) = Crc.dmg FF k (256 * d) j) := if_neg hc1
            have Htu : Hid (Crc.turned FF k (256 * d) (j + 1) = Crc.turned FF k (256 * d) j) := if_neg hc1
            clear hbit hc1 hlow
            go_wp2_with fail
            go_roundw
            case rel => exact ⟨j + 1, by omega, by go_num, by rw [Htu.out], by rw [Hdm.out]; exact Hblk, hb⟩
            case measure => simp [intOf] <;> omega
        · have hb0 : d / 2 ^ (7 - j) % 2 = 0 := by omega
          have E := and_one_int d (7 - j) (by have := Hd.out; omega)
          rw [hb0] at E
          have Hdm : Hid (Crc.dmg FF k (256 * d) (j + 1) = Crc.dmg FF k (256 * d) j) := if_neg (fun h => by omega)
          have Htu : Hid (Crc.turned FF k (256 * d) (j + 1) = Crc.turned FF k (256 * d) j) := if_neg (fun h => by omega)
          clear hbit hb0 hlow
          go_wp2_with fail
          go_roundw
          case rel => exact ⟨j + 1, by omega, by go_num, by rw [Htu.out], by rw [Hdm.out]; exact Hblk, hb⟩
          case measure => simp [intOf] <;> omega
      · obtain rfl : j = 8 := by omega
        go_wp2_with fail
        go_meet
        exact ⟨rfl, Hblk, hb⟩
end Go.Proofs.YtgohfbfdhdepnaaDoor
