/-
  header: Read of Write, and of the beginnings of it: plain.
  header: Read of Write, behind the number; the whole: plain.
  header: Write of what Read told is what was read: plain.
  header: Write of what Read told is what was read: plain, the whole.
  jetsamlaw08.awake.
  jetsamlaw08.HeaderBack: its walk, from the second Read on.
  jetsamlaw08.HeaderBack: its walk.
  The arguments of a law, opened: what the walks are told of them.
  A header that came in, opened.
  What the rows' condition on the tables gives the walks; the door's own heap meets it.
-/
import Derived.Test.YtgohfbfdhdepnaaDoorHb7
import Derived.Test.YtgohfbfdhdepnaaDoorHb6
import Derived.Test.YtgohfbfdhdepnaaDoorHb1
import Derived.Deep.DeepCutAuto
import Derived.ProofKit
import Derived.OpenShut
import Derived.ShutString
import Derived.ChangeOld
import Derived.Deep.Slices
import Derived.Test.YtgohfbfdhdepnaaDoorHb2
import Derived.Deep.SlicePairs
import Derived.Lib.SmallJoins
import Derived.LaidMore
import Derived.Stop.Joined
import Derived.Lib.LaidTab
import Derived.Stop.LaidErr
namespace Go.Proofs.YtgohfbfdhdepnaaDoor
open Go.RowKit

theorem hdI_eq (V : Bool) (bc rc m dc n : Nat) (b r d : Int) : hdI ⟨V, bc, rc, m, dc, n, b, r, d⟩ = hdI0 V bc rc m dc n ++ blkI bc b ++ ratI rc r := by
  simp only [hdI, Int.toNat_natCast]
theorem hdI0_length (V : Bool) (bc rc m dc n : Nat) : (hdI0 V bc rc m dc n).length = 32 + 8 * C3.szN n := by
  simp only [hdI0, List.length_append, vb_length, by8_length, codB_length, List.length_nil]
/-- The first four bytes. -/
theorem first_four {V : Bool} {bc rc m dc : Nat} {I rest : List Nat} (c : List UInt8) (hlt : ∀ b ∈ I, b < 2) (hI : I = [] ++ vb 32764 15 ++ vb (bitV V) 1 ++ vb bc 4 ++ vb rc 4 ++ vb m 4 ++ vb dc 3 ++ vb 0 1 ++ rest)
    (hbc : bc < 16) (hrc : rc < 16) (hm : m < 16) (hdc : dc < 8) :
    sg (bitAt (pkL I ++ c)) 0 8 = 255 ∧ sg (bitAt (pkL I ++ c)) 8 8 = 248 + bitV V ∧ sg (bitAt (pkL I ++ c)) 16 8 = 16 * bc + rc ∧ sg (bitAt (pkL I ++ c)) 24 8 = 16 * m + 2 * dc := by
  have hV : bitV V < 2 ^ 1 := by cases V <;> decide
  have hI' : I = [] ++ vb 32764 15 ++ (vb (bitV V) 1 ++ (vb bc 4 ++ (vb rc 4 ++ (vb m 4 ++ (vb dc 3 ++ (vb 0 1 ++ rest)))))) := by rw [hI]; simp only [List.append_assoc]
  have k1 := sg_at (t := 0) c hlt (pre := []) (n := 15) (v := 32764) (post := vb (bitV V) 1 ++ (vb bc 4 ++ (vb rc 4 ++ (vb m 4 ++ (vb dc 3 ++ (vb 0 1 ++ rest)))))) hI' rfl (by decide)
  have k2 := sg_at (t := 15) c hlt (pre := [] ++ vb 32764 15) (n := 1) (v := bitV V) (post := vb bc 4 ++ (vb rc 4 ++ (vb m 4 ++ (vb dc 3 ++ (vb 0 1 ++ rest))))) (by rw [hI']; simp only [List.append_assoc]) (by simp [vb_length]) hV
  have k3 := sg_at (t := 16) c hlt (pre := [] ++ vb 32764 15 ++ vb (bitV V) 1) (n := 4) (v := bc) (post := vb rc 4 ++ (vb m 4 ++ (vb dc 3 ++ (vb 0 1 ++ rest)))) (by rw [hI']; simp only [List.append_assoc]) (by simp [vb_length]) hbc
  have k4 := sg_at (t := 20) c hlt (pre := [] ++ vb 32764 15 ++ vb (bitV V) 1 ++ vb bc 4) (n := 4) (v := rc) (post := vb m 4 ++ (vb dc 3 ++ (vb 0 1 ++ rest))) (by rw [hI']; simp only [List.append_assoc]) (by simp [vb_length]) hrc
  have k5 := sg_at (t := 24) c hlt (pre := [] ++ vb 32764 15 ++ vb (bitV V) 1 ++ vb bc 4 ++ vb rc 4) (n := 4) (v := m) (post := vb dc 3 ++ (vb 0 1 ++ rest)) (by rw [hI']; simp only [List.append_assoc]) (by simp [vb_length]) hm
  have k6 := sg_at (t := 28) c hlt (pre := [] ++ vb 32764 15 ++ vb (bitV V) 1 ++ vb bc 4 ++ vb rc 4 ++ vb m 4) (n := 3) (v := dc) (post := vb 0 1 ++ rest) (by rw [hI']; simp only [List.append_assoc]) (by simp [vb_length]) hdc
  have k7 := sg_at (t := 31) c hlt (pre := [] ++ vb 32764 15 ++ vb (bitV V) 1 ++ vb bc 4 ++ vb rc 4 ++ vb m 4 ++ vb dc 3) (n := 1) (v := 0) (post := rest) hI (by simp [vb_length]) (by decide)
  have hf := bitAt_lt (pkL I ++ c)
  have a1 := sg_add (bitAt (pkL I ++ c)) 0 8 7
  have a2 := sg_add (bitAt (pkL I ++ c)) 8 7 1
  have a3 := sg_add (bitAt (pkL I ++ c)) 16 4 4
  have a4 := sg_add (bitAt (pkL I ++ c)) 24 4 4
  have a5 := sg_add (bitAt (pkL I ++ c)) 28 3 1
  simp only [Nat.zero_add, Nat.reduceAdd] at a1 a2 a3 a4 a5
  have b1 := sg_lt hf 8 7
  rw [k1] at a1
  rw [k2] at a2
  rw [k3, k4] at a3
  rw [k6, k7] at a5
  rw [k5, a5] at a4
  refine ⟨?_, ?_, ?_, ?_⟩ <;> omega

theorem bitV_mod (V : Bool) : ((248 + bitV V) % 2 == 1) = V := by cases V <;> rfl
theorem n8_drop4 {l d : List UInt8} {P X Y : List UInt8} (h : l ++ d = P ++ X ++ Y) (hP : P.length = 4) (hl : 4 ≤ l.length) : l.drop 4 ++ d = X ++ Y := by
  have := congrArg (List.drop 4) h
  rw [List.drop_append_of_le_length hl, List.append_assoc, List.drop_left' hP] at this
  exact this
theorem app_cases {a d X Y : List UInt8} (h : a ++ d = X ++ Y) : (∃ Z, a = X ++ Z ∧ Z ++ d = Y) ∨ (a.length < X.length ∧ a = X.take a.length) := by
  by_cases hl : a.length < X.length
  · right
    refine ⟨hl, ?_⟩
    have := congrArg (List.take a.length) h
    rw [List.take_left', List.take_append_of_le_length (by omega)] at this
    · exact this
    · rfl
  · left
    refine ⟨a.drop X.length, ?_, ?_⟩
    · have := congrArg (List.take X.length) h
      rw [List.take_append_of_le_length (by omega), List.take_left' rfl] at this
      conv => lhs; rw [← List.take_append_drop X.length a, this]
    · have := congrArg (List.drop X.length) h
      rw [List.drop_append_of_le_length (by omega), List.drop_left' rfl] at this
      exact this
/-- The number's code, read. -/
theorem get_pre {l d P Y : List UInt8} {n : Nat} (hn : n < 68719476736) (h : l ++ d = P ++ codB n ++ Y) (hP : P.length = 4) (hl : 4 ≤ l.length) :
    4 + C3.szN n ≤ l.length ∧ C3.getR (n8 (l.drop 4)) = (n, C3.szN n, 0) ∨ l.length < 4 + C3.szN n ∧ C3.getR (n8 (l.drop 4)) = (0, 0, 11) := by
  have h4 := n8_drop4 h hP hl
  rcases app_cases h4 with ⟨Z, hZ, -⟩ | ⟨h1, h2⟩
  · left
    refine ⟨?_, ?_⟩
    · have := congrArg List.length hZ
      rw [List.length_drop, List.length_append, codB_length] at this
      omega
    · rw [hZ, show n8 (codB n ++ Z) = n8 (codB n) ++ n8 Z from by simp [n8], n8_codB n hn]
      exact C3.getR_code n hn _
  · right
    rw [codB_length, List.length_drop] at h1
    refine ⟨by omega, ?_⟩
    rw [h2, show n8 ((codB n).take (l.drop 4).length) = (n8 (codB n)).take (l.drop 4).length from by simp [n8, List.map_take], n8_codB n hn]
    exact C3.getR_part n hn _ (by rw [List.length_drop]; omega)

/-- What head finds. -/
theorem head_pre {L d F b : List UInt8} {V : Bool} {bc rc m dc : Nat} (h : L ++ d = F ++ b) (hF : 4 ≤ F.length)
    (h0 : sg (bitAt F) 0 8 = 255) (h1 : sg (bitAt F) 8 8 = 248 + bitV V) (h2 : sg (bitAt F) 16 8 = 16 * bc + rc) (h3 : sg (bitAt F) 24 8 = 16 * m + 2 * dc)
    (hbc : bc < 16) (hrc : rc < 16) (hm : m ≤ 10) (hdc : dc < 8) (kb : blkL.getD bc 0 ≠ -1) (kr : ratL.getD rc 0 ≠ -1) (kd : depL.getD dc 0 ≠ -1)
    {x1 x2 x3 t4 : Nat} {e9 : Int} (H : HeadRel L x1 x2 x3 t4 e9) :
    At L 32 t4 e9 ∧ (e9 = 0 → x1 = 248 + bitV V ∧ x2 = 16 * bc + rc ∧ x3 = 16 * m + 2 * dc) := by
  obtain ⟨x0, t1, t2, t3, e1, e2, e3, e4, e5, e6, e7, e8, rfl, rfl, rfl, rfl, rfl, rfl, rfl, rfl, rfl, rfl, rfl, rfl, rfl, rfl, rfl, rfl, rfl⟩ := H
  have hV : bitV V < 2 := by cases V <;> decide
  have A0 : At L 0 0 0 := .inl ⟨rfl, rfl, by omega⟩
  obtain ⟨A1, v1⟩ := A0.take 8 255 8 rfl (by decide) (by decide) fun hh => by rw [sg_pre h 0 8 hh (by omega), h0]
  have w1 := A1.wr ((tqV L 0 0 8 : Int) != 255) 14 fun hh => by rw [(v1 hh).1]; rfl
  rw [w1]
  obtain ⟨A2, v2⟩ := A1.take 8 (248 + bitV V) 8 rfl (by decide) (by decide) fun hh => by rw [Nat.zero_add] at hh ⊢; rw [sg_pre h 8 8 hh (by omega), h1]
  have w2 := A2.wr (((tqV L (tqT L 0 0 8) (tqE L 0 0 8) 8 / 2 : Nat) : Int) != 124) 14 fun hh => by rw [(v2 hh).1, show (248 + bitV V) / 2 = 124 from by omega]; rfl
  rw [w2]
  obtain ⟨A3, v3⟩ := A2.take 8 (16 * bc + rc) 8 rfl (by decide) (by decide) fun hh => by rw [Nat.zero_add] at hh ⊢; rw [sg_pre h 16 8 hh (by omega), h2]
  generalize tqV L (tqT L 0 0 8) (tqE L 0 0 8) 8 = y1 at *
  generalize tqT L (tqT L 0 0 8) (tqE L 0 0 8) 8 = s2 at *
  generalize tqE L (tqT L 0 0 8) (tqE L 0 0 8) 8 = z2 at *
  have w3 := A3.wr (blkL.getD (tqV L s2 z2 8 / 16) 0 == -1 || ratL.getD (tqV L s2 z2 8 % 16) 0 == -1) 13 fun hh => by
    rw [(v3 hh).1, show (16 * bc + rc) / 16 = bc from by omega, show (16 * bc + rc) % 16 = rc from by omega]
    simp only [Bool.or_eq_false_iff, beq_eq_false_iff_ne]
    exact ⟨kb, kr⟩
  rw [w3]
  obtain ⟨A4, v4⟩ := A3.take 8 (16 * m + 2 * dc) 8 rfl (by decide) (by decide) fun hh => by rw [Nat.zero_add] at hh ⊢; rw [sg_pre h 24 8 hh (by omega), h3]
  generalize tqV L s2 z2 8 = y2 at *
  generalize tqT L s2 z2 8 = s3 at *
  generalize tqE L s2 z2 8 = z3 at *
  have w4 := A4.wr (decide (((tqV L s3 z3 8 / 16 : Nat) : Int) > 10) || depL.getD (tqV L s3 z3 8 / 2 % 8) 0 == -1) 13 fun hh => by
    rw [(v4 hh).1, show (16 * m + 2 * dc) / 16 = m from by omega, show (16 * m + 2 * dc) / 2 % 8 = dc from by omega]
    simp only [Bool.or_eq_false_iff, beq_eq_false_iff_ne, decide_eq_false_iff_not]
    exact ⟨by omega, kd⟩
  rw [w4]
  have w5 := A4.wr (((tqV L s3 z3 8 % 2 : Nat) : Int) == 1) 12 fun hh => by
    rw [(v4 hh).1, show (16 * m + 2 * dc) % 2 = 0 from by omega]; rfl
  rw [w5]
  refine ⟨A4, fun hh => ?_⟩
  obtain ⟨p1, p2, -⟩ := v4 hh
  obtain ⟨p3, p4, -⟩ := v3 p2
  obtain ⟨p5, -, -⟩ := v2 p4
  exact ⟨p5, p3, p1⟩
end Go.Proofs.YtgohfbfdhdepnaaDoor

namespace Go.Proofs.YtgohfbfdhdepnaaDoor
open Go.RowKit

theorem two_pow_i (n : Nat) : (2 : Int) ^ n = ((2 ^ n : Nat) : Int) := by simp
theorem blk_pre {L d F b : List UInt8} {I pre post : List Nat} {c : List UInt8} (h : L ++ d = F ++ b) (hF : F = pkL I ++ c) (hlt : ∀ x ∈ I, x < 2) {bc T : Nat} {B : Int} (hbc : bc < 16) (hI : I = pre ++ blkI bc B ++ post) (hT : pre.length = T)
    (hf : bFits bc B = true) (hA : T ≤ 8 * L.length) {bb : Int} {t6 : Nat} {e7 : Int} (H : BlkRel L bc T bb t6 e7) : At L (T + (blkI bc B).length) t6 e7 ∧ (e7 = 0 → bb = B) := by
  have A0 : At L T T 0 := .inl ⟨rfl, rfl, hA⟩
  have hIl : I.length = pre.length + (blkI bc B).length + post.length := by rw [hI, List.length_append, List.length_append]
  have hFl : I.length ≤ 8 * F.length := by rw [hF, List.length_append, pkL_length]; omega
  rcases H with ⟨hk, rfl, rfl, rfl⟩ | ⟨hk, rfl, rfl, rfl⟩
  · rcases blk_behind bc hbc hk with rfl | rfl
    · obtain ⟨h1, h2⟩ := of_decide_eq_true (show decide (1 ≤ B ∧ B ≤ 256) = true from hf)
      have e1 : blkI 6 B = vb (B - 1).toNat 8 := if_pos rfl
      rw [e1] at hI hIl ⊢
      rw [vb_length] at hIl ⊢
      obtain ⟨A1, v1⟩ := A0.take 8 (B - 1).toNat (((6 - 5) * 8 : Nat) : Int) rfl (by decide) (by decide) fun hh => by
        rw [sg_pre h T 8 hh (by omega), hF]
        exact sg_at c hlt hI hT (by show _ < 256; omega)
      have w1 := A1.wr (decide (65535 < (tqV L T 0 (((6 - 5) * 8 : Nat) : Int) : Int) + 1)) 13 fun hh => by rw [(v1 hh).1, decide_eq_false_iff_not]; omega
      rw [w1]
      exact ⟨A1, fun hh => by rw [(v1 hh).1]; omega⟩
    · obtain ⟨h1, h2⟩ := of_decide_eq_true (show decide (1 ≤ B ∧ B ≤ 65535) = true from hf)
      have e1 : blkI 7 B = vb (B - 1).toNat 16 := by rw [blkI, if_neg (by decide), if_pos rfl]
      rw [e1] at hI hIl ⊢
      rw [vb_length] at hIl ⊢
      obtain ⟨A1, v1⟩ := A0.take 16 (B - 1).toNat (((7 - 5) * 8 : Nat) : Int) rfl (by decide) (by decide) fun hh => by
        rw [sg_pre h T 16 hh (by omega), hF]
        exact sg_at c hlt hI hT (by show _ < 65536; omega)
      have w1 := A1.wr (decide (65535 < (tqV L T 0 (((7 - 5) * 8 : Nat) : Int) : Int) + 1)) 13 fun hh => by rw [(v1 hh).1, decide_eq_false_iff_not]; omega
      rw [w1]
      exact ⟨A1, fun hh => by rw [(v1 hh).1]; omega⟩
  · have h67 : bc ≠ 6 ∧ bc ≠ 7 := ⟨by rintro rfl; exact hk rfl, by rintro rfl; exact hk rfl⟩
    have e1 : blkI bc B = [] := by rw [blkI, if_neg h67.1, if_neg h67.2]
    have hf2 : B = blkL.getD bc 0 := by
      rw [bFits, if_neg (by omega), if_neg (by omega), Int.toNat_natCast] at hf
      exact of_decide_eq_true hf
    rw [e1]
    exact ⟨A0, fun _ => hf2.symm⟩
theorem rat_one {L d F b : List UInt8} {I pre post : List Nat} {c : List UInt8} (h : L ++ d = F ++ b) (hF : F = pkL I ++ c) (hlt : ∀ x ∈ I, x < 2) {T W : Nat} {R u : Int} (hu : 0 < u) (h0 : 0 ≤ R) (hm : R % u = 0) (hq : R / u < 2 ^ W) (hW0 : 0 < W) (hW : W ≤ 48)
    (hI : I = pre ++ vb (R / u).toNat W ++ post) (hT : pre.length = T) {t6 : Nat} {e7 : Int} (A0 : At L T t6 e7) {ni : Int} (hni : ni = W) :
    At L (T + W) (tqT L t6 e7 ni) (tqE L t6 e7 ni) ∧ (tqE L t6 e7 ni = 0 → (tqV L t6 e7 ni : Int) * u = R) := by
  have hIl : I.length = pre.length + W + post.length := by rw [hI, List.length_append, List.length_append, vb_length]
  have hFl : I.length ≤ 8 * F.length := by rw [hF, List.length_append, pkL_length]; omega
  have hq0 : 0 ≤ R / u := Int.ediv_nonneg h0 (by omega)
  rw [two_pow_i] at hq
  obtain ⟨A1, v1⟩ := A0.take W (R / u).toNat ni hni hW0 hW fun hh => by
    rw [sg_pre h T W hh (by omega), hF]
    exact sg_at c hlt hI hT (by omega)
  refine ⟨A1, fun hh => ?_⟩
  rw [(v1 hh).1, Int.toNat_of_nonneg hq0]
  exact Int.ediv_mul_cancel_of_emod_eq_zero hm
theorem rat_pre {L d F b : List UInt8} {I pre post : List Nat} {c : List UInt8} (h : L ++ d = F ++ b) (hF : F = pkL I ++ c) (hlt : ∀ x ∈ I, x < 2) {rc T : Nat} {R : Int} (hrc : rc < 16) (hI : I = pre ++ ratI rc R ++ post) (hT : pre.length = T)
    (hf : rFits rc R = true) {rr : Int} {t6 t8 : Nat} {e7 e8 : Int} (A0 : At L T t6 e7) (H : RatRel L rc t6 e7 rr t8 e8) : At L (T + (ratI rc R).length) t8 e8 ∧ (e8 = 0 → rr = R) := by
  rcases H with ⟨hk, rfl, rfl, rfl⟩ | ⟨hk, rfl, rfl, rfl⟩
  · obtain ⟨hr0, hrm, hrq⟩ := of_decide_eq_true (show decide (0 ≤ R ∧ R % unU rc = 0 ∧ R / unU rc < 2 ^ unN rc) = true from by rw [← hf, rFits, Int.toNat_natCast, if_pos hk])
    rcases rat_behind rc hrc hk with rfl | rfl | rfl
    · have e1 : ratI 12 R = vb (R / 1000).toNat 8 := if_pos rfl
      rw [e1] at hI ⊢
      rw [vb_length]
      exact rat_one h hF hlt (u := 1000) (W := 8) (by decide) hr0 hrm hrq (by decide) (by decide) hI hT A0 rfl
    · have e1 : ratI 13 R = vb (R / 1).toNat 16 := by rw [ratI, if_neg (by decide), if_pos rfl, Int.ediv_one]
      rw [e1] at hI ⊢
      rw [vb_length]
      exact rat_one h hF hlt (u := 1) (W := 16) (by decide) hr0 hrm hrq (by decide) (by decide) hI hT A0 rfl
    · have e1 : ratI 14 R = vb (R / 10).toNat 16 := by rw [ratI, if_neg (by decide), if_neg (by decide), if_pos rfl]
      rw [e1] at hI ⊢
      rw [vb_length]
      exact rat_one h hF hlt (u := 10) (W := 16) (by decide) hr0 hrm hrq (by decide) (by decide) hI hT A0 rfl
  · have h67 : rc ≠ 12 ∧ rc ≠ 13 ∧ rc ≠ 14 := ⟨by rintro rfl; exact hk rfl, by rintro rfl; exact hk rfl, by rintro rfl; exact hk rfl⟩
    have e1 : ratI rc R = [] := by rw [ratI, if_neg h67.1, if_neg h67.2.1, if_neg h67.2.2]
    have hf2 : R = ratL.getD rc 0 := by
      rw [rFits, Int.toNat_natCast, if_neg hk] at hf
      exact of_decide_eq_true hf
    rw [e1]
    exact ⟨A0, fun _ => hf2.symm⟩
theorem last_byte (A c : List UInt8) (x : UInt8) : sg (bitAt (A ++ [x] ++ c)) (8 * A.length) 8 = x.toNat := by
  rw [sg_byte _ _ 8 (by omega), show 8 * A.length / 8 = A.length from by omega, show 8 * A.length % 8 = 0 from by omega, List.append_assoc, List.getD_eq_getElem?_getD, List.getElem?_append_right (Nat.le_refl _), Nat.sub_self]
  have := x.toNat_lt
  show x.toNat / 1 % 256 = _
  omega

/-- Read of what Write wrote, or of the beginning of it. -/
theorem read_pre {h : Hd} (hc : chkE h = 0) {l d b : List UInt8} (hl : l ++ d = hdB h ++ b) {x : Hd} {n : Nat} {f : Int} (R : ReadRel l x n f) :
    (hdB h).length ≤ l.length ∧ x = h ∧ n = (hdB h).length ∧ f = 0 ∨ l.length < (hdB h).length ∧ f = 11 := by
  obtain ⟨bc, rc, m, dc, N, hh, hbc, hrc, hm, hdc, hn, hnm, hbf, hrf, kb0, kr15, kd3⟩ := hd_ok hc
  obtain ⟨V, bc', rc', m', dc', n', B, Rt, d'⟩ := h
  simp only [Hd.mk.injEq] at hh
  obtain ⟨-, rfl, rfl, rfl, rfl, rfl, -, -, rfl⟩ := hh
  simp only at hnm hbf hrf
  have hlt := hdI_lt ⟨V, bc, rc, m, dc, N, B, Rt, depL.getD dc 0⟩
  have hI := hdI_eq V bc rc m dc N B Rt (depL.getD dc 0)
  have hFe : hdB ⟨V, bc, rc, m, dc, N, B, Rt, depL.getD dc 0⟩ = pkL (hdI ⟨V, bc, rc, m, dc, N, B, Rt, depL.getD dc 0⟩) ++ [UInt8.ofNat (C2.crc8 0 (pkL (hdI ⟨V, bc, rc, m, dc, N, B, Rt, depL.getD dc 0⟩)))] := rfl
  generalize hdI ⟨V, bc, rc, m, dc, N, B, Rt, depL.getD dc 0⟩ = I at *
  generalize hdB ⟨V, bc, rc, m, dc, N, B, Rt, depL.getD dc 0⟩ = F at *
  have kb : blkL.getD bc 0 ≠ -1 := by
    have : ∀ i : Fin 16, i.val ≠ 0 → blkL.getD i.val 0 ≠ -1 := by decide +kernel
    exact this ⟨bc, hbc⟩ kb0
  have kr : ratL.getD rc 0 ≠ -1 := by
    have : ∀ i : Fin 16, i.val ≠ 15 → ratL.getD i.val 0 ≠ -1 := by decide +kernel
    exact this ⟨rc, hrc⟩ kr15
  have kd : depL.getD dc 0 ≠ -1 := by
    have : ∀ i : Fin 8, i.val ≠ 3 → depL.getD i.val 0 ≠ -1 := by decide +kernel
    exact this ⟨dc, hdc⟩ kd3
  have hS := C3.szN_pos N
  have hbw := blW_cases bc
  have hrw := raW_cases rc
  have hIl : I.length = 32 + 8 * C3.szN N + blW bc + raW rc := by rw [hI, List.length_append, List.length_append, hdI0_length, blkI_length, ratI_length]
  have hFl : 8 * F.length = I.length + 8 := by rw [hFe, List.length_append, pkL_length]; simp only [List.length_cons, List.length_nil]; omega
  obtain ⟨p0, p1, p2, p3⟩ := first_four [UInt8.ofNat (C2.crc8 0 (pkL I))] hlt (V := V) (bc := bc) (rc := rc) (m := m) (dc := dc) (rest := by8 (codB N) ++ blkI bc B ++ ratI rc Rt) (by rw [hI, hdI0]; simp only [List.append_assoc]) hbc hrc (by omega) hdc
  rw [← hFe] at p0 p1 p2 p3
  have hl16 : l.take 16 ++ (l.drop 16 ++ d) = F ++ b := by rw [← List.append_assoc, List.take_append_drop, hl]
  have hlen : (l.take 16).length = min 16 l.length := List.length_take
  obtain ⟨x1, x2, x3, t4, e9, HH, R⟩ := R
  obtain ⟨A4, v4⟩ := head_pre hl16 (by omega) p0 p1 p2 p3 hbc hrc hm hdc kb kr kd HH
  rcases R with ⟨he, -, -, rfl⟩ | ⟨rfl, R⟩
  · obtain ⟨h1, h2⟩ := A4.len he
    exact .inr ⟨by omega, h1⟩
  obtain ⟨rfl, hle⟩ := A4.ok rfl
  obtain ⟨rfl, rfl, rfl⟩ := v4 rfl
  rw [bitV_mod, show (16 * bc + rc) / 16 = bc from by omega, show (16 * bc + rc) % 16 = rc from by omega, show (16 * m + 2 * dc) / 16 = m from by omega, show (16 * m + 2 * dc) / 2 % 8 = dc from by omega] at R
  have hsplit : pkL I = pkL ([] ++ vb 32764 15 ++ vb (bitV V) 1 ++ vb bc 4 ++ vb rc 4 ++ vb m 4 ++ vb dc 3 ++ vb 0 1) ++ codB N ++ pkL (blkI bc B ++ ratI rc Rt) := by
    rw [hI, hdI0, List.append_assoc (_ ++ by8 (codB N))]
    refine pkL_mid _ _ _ 4 ((blW bc + raW rc) / 8) (by simp [vb_length]) (by rw [List.length_append, blkI_length, ratI_length]; omega) ?_
    rw [← List.append_assoc]
    rw [hI, hdI0] at hlt
    exact hlt
  have hl4 : l ++ d = pkL ([] ++ vb 32764 15 ++ vb (bitV V) 1 ++ vb bc 4 ++ vb rc 4 ++ vb m 4 ++ vb dc 3 ++ vb 0 1) ++ codB N ++ (pkL (blkI bc B ++ ratI rc Rt) ++ [UInt8.ofNat (C2.crc8 0 (pkL I))] ++ b) := by
    rw [hl, hFe]
    generalize [UInt8.ofNat (C2.crc8 0 (pkL I))] = Z
    rw [hsplit]
    simp only [List.append_assoc]
  rcases get_pre hn hl4 (by rw [pkL_length]; simp [vb_length]) (by omega) with ⟨hlg, hg⟩ | ⟨hlg, hg⟩
  case inr =>
    rw [hg] at R
    have e1 : fstE [(((0 : Nat), (0 : Nat), (11 : Nat)).2.2 : Int), if decide ((((0 : Nat), (0 : Nat), (11 : Nat)).1 : Int) ≥ mostV V) then 10 else 0] = 11 := rfl
    rw [e1] at R
    rcases R with ⟨-, -, -, rfl⟩ | ⟨h0, -⟩
    · exact .inr ⟨by omega, rfl⟩
    · cases h0
  rw [hg] at R
  have e1 : fstE [((N, C3.szN N, (0 : Nat)).2.2 : Int), if decide (((N, C3.szN N, (0 : Nat)).1 : Int) ≥ mostV V) then 10 else 0] = 0 := by
    rw [decide_eq_false (by show ¬ ((N : Int) ≥ mostV V); omega)]; rfl
  rw [e1] at R
  rcases R with ⟨h0, -⟩ | ⟨-, bb, rr, at_, e, ⟨t6, t8, e7, e8, HB, HR, rfl, rfl⟩, R⟩
  · exact absurd rfl h0
  simp only at HB R
  obtain ⟨A6, v6⟩ := blk_pre hl16 hFe hlt hbc (pre := hdI0 V bc rc m dc N) (post := ratI rc Rt) hI (T := (4 + C3.szN N) * 8) (by rw [hdI0_length]; omega) hbf (by omega) HB
  obtain ⟨A8, v8⟩ := rat_pre hl16 hFe hlt hrc (pre := hdI0 V bc rc m dc N ++ blkI bc B) (post := []) (by rw [hI, List.append_nil]) (T := (4 + C3.szN N) * 8 + (blkI bc B).length) (by rw [List.length_append, hdI0_length]; omega) hrf A6 HR
  have hT : (4 + C3.szN N) * 8 + (blkI bc B).length + (ratI rc Rt).length = 8 * (pkL I).length := by rw [blkI_length, ratI_length, pkL_length]; omega
  rw [hT] at A8
  have hpl : F.length = (pkL I).length + 1 := by rw [hFe]; simp
  obtain ⟨A9, v9⟩ := A8.take 8 (C2.crc8 0 (pkL I)) 8 rfl (by decide) (by decide) fun hh => by
    rw [sg_pre hl16 _ 8 hh (by omega), hFe]
    have := last_byte (pkL I) [] (UInt8.ofNat (C2.crc8 0 (pkL I)))
    rw [List.append_nil] at this
    rw [this, UInt8.toNat_ofNat', Nat.mod_eq_of_lt (C2.crc8_lt 0 (by decide) _)]
  have w9 := A9.wr ((tqV (l.take 16) t8 e8 8 : Int) != (C2.crc8 0 (l.take (t8 / 8)) : Nat)) 15 fun hh => by
    obtain ⟨q1, q2, q3⟩ := v9 hh
    have hll : (pkL I).length ≤ l.length := by
      obtain ⟨-, q4⟩ := A9.ok hh
      omega
    have ht : l.take (t8 / 8) = pkL I := by
      have := congrArg (List.take (pkL I).length) hl
      rw [List.take_append_of_le_length hll, hFe, List.append_assoc, List.take_left' rfl] at this
      rw [q3, show 8 * (pkL I).length / 8 = (pkL I).length from by omega, this]
    rw [q1, ht]
    exact bne_self_eq_false _
  rw [w9] at R
  rcases R with ⟨he, -, -, rfl⟩ | ⟨he, rfl, rfl, rfl⟩
  · obtain ⟨h1, h2⟩ := A9.len he
    exact .inr ⟨by omega, h1⟩
  · obtain ⟨-, q2, q3⟩ := v9 he
    obtain ⟨-, q4⟩ := A9.ok he
    have e7z : e7 = 0 := by
      rcases HR with ⟨-, -, -, hz⟩ | ⟨-, -, -, hz⟩
      · rw [q2] at hz
        by_cases k : e7 = 0
        · exact k
        · rw [tqE, if_neg k] at hz; exact hz.symm
      · rw [q2] at hz; exact hz.symm
    refine .inl ⟨by omega, ?_, by rw [q3]; omega, rfl⟩
    rw [v6 e7z, v8 q2]
end Go.Proofs.YtgohfbfdhdepnaaDoor

namespace Go.Proofs.YtgohfbfdhdepnaaDoor
open Go.RowKit

theorem take_ok {L : List UInt8} {t : Nat} {e : Int} (n : Nat) (ni : Int) (hi : ni = n) (h0 : 0 < n) (hn : n ≤ 48) (h : tqE L t e ni = 0) : e = 0 ∧ t + n ≤ 8 * L.length ∧ tqT L t e ni = t + n ∧ tqV L t e ni = sg (bitAt L) t n := by
  subst hi
  rcases tqE_zero n hn h with ⟨h1, h2⟩ | ⟨h1, h2⟩
  · refine ⟨h1, h2, tqT_ok n h, ?_⟩
    subst h1
    rw [tqE, if_pos rfl] at h
    rw [tqV, if_pos rfl, tkV, if_pos h, Int.toNat_natCast]
  · omega
theorem vb_of (l : List UInt8) (t n : Nat) {x : Nat} (h : sg (bitAt l) t n = x) : bitL l t ++ vb x n = bitL l (t + n) := by
  rw [← h, vb_sg (bitAt_lt l), bitL_add]
theorem bitL_zero (l : List UInt8) : bitL l 0 = [] := by simp [bitL]
theorem bitL_by8_at (l : List UInt8) (k n : Nat) (h : k + n ≤ l.length) : bitL l (8 * k) ++ by8 ((l.drop k).take n) = bitL l (8 * (k + n)) := by
  have h1 : ∀ m, m ≤ l.length → bitL l (8 * m) = by8 (l.take m) := by
    intro m hm
    have h2 := bitL_by8' (l.take m)
    rw [List.length_take, Nat.min_eq_left hm] at h2
    rw [← h2]
    unfold bitL
    refine List.map_congr_left fun i hi => ?_
    have hi := List.mem_range.1 hi
    conv => lhs; rw [← List.take_append_drop m l]
    exact bitAt_left _ _ _ (by rw [List.length_take]; omega)
  rw [h1 _ h, h1 k (by omega), ← by8_append, List.take_add]
theorem codB_n8 (n : Nat) (hn : n < 68719476736) (l : List UInt8) (h : C3.codeN n = n8 l) : codB n = l := by
  have h2 := n8_codB n hn
  rw [h] at h2
  have key : ∀ a b : List UInt8, n8 a = n8 b → a = b := by
    intro a
    induction a with
    | nil => intro b hb; cases b with
      | nil => rfl
      | cons y b => simp [n8] at hb
    | cons x a ih => intro b hb; cases b with
      | nil => simp [n8] at hb
      | cons y b =>
        simp only [n8, List.map_cons, List.cons.injEq] at hb
        rw [ih b hb.2, UInt8.toNat_inj.1 hb.1]
  exact key _ _ h2
/-- What head found where nothing is wrong. -/
theorem head_post {L : List UInt8} {x1 x2 x3 t4 : Nat} (H : HeadRel L x1 x2 x3 t4 0) :
    4 ≤ L.length ∧ t4 = 32 ∧ sg (bitAt L) 0 8 = 255 ∧ sg (bitAt L) 8 8 = x1 ∧ sg (bitAt L) 16 8 = x2 ∧ sg (bitAt L) 24 8 = x3 ∧ x1 / 2 = 124 ∧ blkL.getD (x2 / 16) 0 ≠ -1 ∧ ratL.getD (x2 % 16) 0 ≠ -1 ∧ x3 / 16 ≤ 10 ∧ depL.getD (x3 / 2 % 8) 0 ≠ -1 ∧ x3 % 2 = 0 := by
  obtain ⟨h32, hl4⟩ := head_ok H
  obtain ⟨x0, t1, t2, t3, e1, e2, e3, e4, e5, e6, e7, e8, rx0, rt1, re1, re2, rx1, rt2, re3, re4, rx2, rt3, re5, re6, rx3, rt4, re7, re8, re9⟩ := H
  obtain ⟨k8, b9⟩ := wrE_zero (by decide) re9.symm
  rw [k8] at re8
  obtain ⟨k7, b8⟩ := wrE_zero (by decide) re8.symm
  rw [k7] at re7
  obtain ⟨k6, l7, q7, v7⟩ := take_ok 8 8 rfl (by decide) (by decide) re7.symm
  rw [k6] at re6
  obtain ⟨k5, b6⟩ := wrE_zero (by decide) re6.symm
  rw [k5] at re5
  obtain ⟨k4, l5, q5, v5⟩ := take_ok 8 8 rfl (by decide) (by decide) re5.symm
  rw [k4] at re4
  obtain ⟨k3, b4⟩ := wrE_zero (by decide) re4.symm
  rw [k3] at re3
  obtain ⟨k2, l3, q3, v3⟩ := take_ok 8 8 rfl (by decide) (by decide) re3.symm
  rw [k2] at re2
  obtain ⟨k1, b2⟩ := wrE_zero (by decide) re2.symm
  rw [k1] at re1
  obtain ⟨-, l1, q1, v1⟩ := take_ok 8 8 rfl (by decide) (by decide) re1.symm
  have a1 : t1 = 8 := by rw [rt1]; exact q1
  have a2 : t2 = 16 := by rw [rt2, q3, a1]
  have a3 : t3 = 24 := by rw [rt3, q5, a2]
  rw [a1] at v3
  rw [a2] at v5
  rw [a3] at v7
  rw [bne_eq_false_iff_eq] at b2 b4
  simp only [Bool.or_eq_false_iff, beq_eq_false_iff_ne, decide_eq_false_iff_not] at b6 b8
  rw [beq_eq_false_iff_ne] at b9
  refine ⟨hl4, h32, by rw [← v1, ← rx0]; omega, ?_, ?_, ?_, by omega, b6.1, b6.2, by omega, b8.2, by omega⟩
  · rw [← v3, rx1, a1]
  · rw [← v5, rx2, a2]
  · rw [← v7, rx3, a3]
theorem hd_check {V : Bool} {bc rc m dc n : Nat} {b r : Int} (hbc : bc < 16) (hrc : rc < 16) (hm : m ≤ 10) (hdc : dc < 8) (kb : blkL.getD bc 0 ≠ -1) (kr : ratL.getD rc 0 ≠ -1) (kd : depL.getD dc 0 ≠ -1) (hn : (n : Int) < mostV V)
    (hf : bFits bc b = true) (hg : rFits rc r = true) : chkE ⟨V, bc, rc, m, dc, n, b, r, depL.getD dc 0⟩ = 0 := by
  have h1 : ofT blkL bc = blkL.getD bc 0 := by rw [ofT, if_neg (by show ¬ ((bc : Int) < 0 ∨ (16 : Int) ≤ bc); omega), Int.toNat_natCast]
  have h2 : ofT ratL rc = ratL.getD rc 0 := by rw [ofT, if_neg (by show ¬ ((rc : Int) < 0 ∨ (16 : Int) ≤ rc); omega), Int.toNat_natCast]
  have h3 : ofT depL dc = depL.getD dc 0 := by rw [ofT, if_neg (by show ¬ ((dc : Int) < 0 ∨ (8 : Int) ≤ dc); omega), Int.toNat_natCast]
  have hc : codE ⟨V, bc, rc, m, dc, n, b, r, depL.getD dc 0⟩ = 0 := by
    have e1 : (ofT blkL bc == -1 || ofT ratL rc == -1) = false := by
      rw [h1, h2, Bool.or_eq_false_iff, beq_eq_false_iff_ne, beq_eq_false_iff_ne]; exact ⟨kb, kr⟩
    have e2 : chE m = 0 := by rw [chE, if_neg (by omega)]
    have e3 : (ofT depL dc == -1) = false := by rw [h3, beq_eq_false_iff_ne]; exact kd
    simp only [codE, e1, e2, e3]
    rfl
  have e1 : (decide ((n : Int) < 0) || decide ((n : Int) ≥ mostV V)) = false := by
    rw [Bool.or_eq_false_iff, decide_eq_false_iff_not, decide_eq_false_iff_not]; omega
  have e2 : (!bFits bc b || !rFits rc r || depL.getD dc 0 != depL.getD dc 0) = false := by
    rw [hf, hg, bne_self_eq_false]; rfl
  simp only [chkE, hc, if_pos, Int.toNat_natCast, e1, e2]
  rfl
end Go.Proofs.YtgohfbfdhdepnaaDoor

namespace Go.Proofs.YtgohfbfdhdepnaaDoor
open Go.RowKit

theorem blk_post {L : List UInt8} {bc T : Nat} {bb : Int} {t6 : Nat} {e7 : Int} (hbc : bc < 16) (kb : blkL.getD bc 0 ≠ -1) (H : BlkRel L bc T bb t6 e7) (hz : e7 = 0) (hT : T ≤ 8 * L.length) :
    bFits bc bb = true ∧ bitL L T ++ blkI bc bb = bitL L t6 ∧ t6 = T + blW bc ∧ t6 ≤ 8 * L.length := by
  rcases H with ⟨hk, rfl, rfl, rfl⟩ | ⟨hk, rfl, rfl, rfl⟩
  · obtain ⟨h1, h2⟩ := wrE_zero (by decide) hz
    rw [decide_eq_false_iff_not] at h2
    rcases blk_behind bc hbc hk with rfl | rfl
    · obtain ⟨-, h3, h4, h5⟩ := take_ok 8 (((6 - 5) * 8 : Nat) : Int) rfl (by decide) (by decide) h1
      have hlt := sg_lt (bitAt_lt L) T 8
      rw [h4, h5]
      refine ⟨?_, ?_, rfl, h3⟩
      · rw [bFits, if_pos (by rfl)]
        exact decide_eq_true (by omega)
      · rw [blkI, if_pos rfl, Int.add_sub_cancel, Int.toNat_natCast]
        exact vb_of L T 8 rfl
    · obtain ⟨-, h3, h4, h5⟩ := take_ok 16 (((7 - 5) * 8 : Nat) : Int) rfl (by decide) (by decide) h1
      rw [h5] at h2
      rw [h4, h5]
      refine ⟨?_, ?_, rfl, h3⟩
      · rw [bFits, if_neg (by decide), if_pos (by rfl)]
        exact decide_eq_true (by omega)
      · rw [blkI, if_neg (by decide), if_pos rfl, Int.add_sub_cancel, Int.toNat_natCast]
        exact vb_of L T 16 rfl
  · have h67 : bc ≠ 6 ∧ bc ≠ 7 := ⟨by rintro rfl; exact hk rfl, by rintro rfl; exact hk rfl⟩
    refine ⟨?_, ?_, ?_, hT⟩
    · rw [bFits, if_neg (by omega), if_neg (by omega), Int.toNat_natCast]
      exact decide_eq_true rfl
    · rw [blkI, if_neg h67.1, if_neg h67.2, List.append_nil]
    · rw [blW, if_neg (by omega), if_neg (by omega)]; rfl
theorem rat_post {L : List UInt8} {rc T : Nat} {rr : Int} {t8 : Nat} {e7 e8 : Int} (hrc : rc < 16) (H : RatRel L rc T e7 rr t8 e8) (hz : e8 = 0) (hT : T ≤ 8 * L.length) :
    e7 = 0 ∧ rFits rc rr = true ∧ bitL L T ++ ratI rc rr = bitL L t8 ∧ t8 = T + raW rc ∧ t8 ≤ 8 * L.length ∧ rr ≤ 100000000 := by
  rcases H with ⟨hk, rfl, rfl, rfl⟩ | ⟨hk, rfl, rfl, rfl⟩
  · rcases rat_behind rc hrc hk with rfl | rfl | rfl
    · obtain ⟨h1, h3, h4, h5⟩ := take_ok 8 (((unN ((12 : Nat) : Int)) : Nat) : Int) rfl (by decide) (by decide) hz
      have hlt := sg_lt (bitAt_lt L) T 8
      rw [h4, h5]
      have e1 : unU ((12 : Nat) : Int) = 1000 := rfl
      rw [e1]
      have e2 : ((sg (bitAt L) T 8 : Int) * 1000) / 1000 = sg (bitAt L) T 8 := Int.mul_ediv_cancel _ (by decide)
      refine ⟨h1, ?_, ?_, rfl, h3, by omega⟩
      · rw [rFits, Int.toNat_natCast, if_pos hk, e1]
        exact decide_eq_true ⟨by omega, by omega, by rw [e2]; show _ < (256 : Int); omega⟩
      · rw [ratI, if_pos rfl, e2, Int.toNat_natCast]
        exact vb_of L T 8 rfl
    · obtain ⟨h1, h3, h4, h5⟩ := take_ok 16 (((unN ((13 : Nat) : Int)) : Nat) : Int) rfl (by decide) (by decide) hz
      have hlt := sg_lt (bitAt_lt L) T 16
      rw [h4, h5]
      have e1 : unU ((13 : Nat) : Int) = 1 := rfl
      rw [e1, Int.mul_one]
      refine ⟨h1, ?_, ?_, rfl, h3, by omega⟩
      · rw [rFits, Int.toNat_natCast, if_pos hk, e1]
        exact decide_eq_true ⟨by omega, by omega, by rw [Int.ediv_one]; show _ < (65536 : Int); omega⟩
      · rw [ratI, if_neg (by decide), if_pos rfl, Int.toNat_natCast]
        exact vb_of L T 16 rfl
    · obtain ⟨h1, h3, h4, h5⟩ := take_ok 16 (((unN ((14 : Nat) : Int)) : Nat) : Int) rfl (by decide) (by decide) hz
      have hlt := sg_lt (bitAt_lt L) T 16
      rw [h4, h5]
      have e1 : unU ((14 : Nat) : Int) = 10 := rfl
      rw [e1]
      have e2 : ((sg (bitAt L) T 16 : Int) * 10) / 10 = sg (bitAt L) T 16 := Int.mul_ediv_cancel _ (by decide)
      refine ⟨h1, ?_, ?_, rfl, h3, by omega⟩
      · rw [rFits, Int.toNat_natCast, if_pos hk, e1]
        exact decide_eq_true ⟨by omega, by omega, by rw [e2]; show _ < (65536 : Int); omega⟩
      · rw [ratI, if_neg (by decide), if_neg (by decide), if_pos rfl, e2, Int.toNat_natCast]
        exact vb_of L T 16 rfl
  · have h67 : rc ≠ 12 ∧ rc ≠ 13 ∧ rc ≠ 14 := ⟨by rintro rfl; exact hk rfl, by rintro rfl; exact hk rfl, by rintro rfl; exact hk rfl⟩
    refine ⟨hz, ?_, ?_, ?_, hT, ?_⟩
    · rw [rFits, Int.toNat_natCast, if_neg hk]
      exact decide_eq_true rfl
    · rw [ratI, if_neg h67.1, if_neg h67.2.1, if_neg h67.2.2, List.append_nil]
    · rw [raW, if_neg (by omega), if_neg (by omega), if_neg (by omega)]; rfl
    · have : ∀ i : Fin 16, ratL.getD i.val 0 ≤ 100000000 := by decide +kernel
      exact this ⟨rc, hrc⟩
theorem hdI0_post {L : List UInt8} {x1 x2 x3 : Nat} {N : Nat} (h0 : sg (bitAt L) 0 8 = 255) (h1 : sg (bitAt L) 8 8 = x1) (h2 : sg (bitAt L) 16 8 = x2) (h3 : sg (bitAt L) 24 8 = x3) (k1 : x1 / 2 = 124) (k3 : x3 % 2 = 0)
    (hc : 4 + C3.szN N ≤ L.length) (hN : codB N = (L.drop 4).take (C3.szN N)) : hdI0 ((x1 % 2 : Nat) == 1) (x2 / 16) (x2 % 16) (x3 / 16) (x3 / 2 % 8) N = bitL L (8 * (4 + C3.szN N)) := by
  have hf := bitAt_lt L
  have a1 := sg_add (bitAt L) 0 8 7
  have a2 := sg_add (bitAt L) 8 7 1
  have a3 := sg_add (bitAt L) 16 4 4
  have a4 := sg_add (bitAt L) 24 4 4
  have a5 := sg_add (bitAt L) 28 3 1
  simp only [Nat.zero_add, Nat.reduceAdd] at a1 a2 a3 a4 a5
  have b1 := sg_lt hf 15 1
  have b2 := sg_lt hf 20 4
  have b3 := sg_lt hf 28 3
  have b4 := sg_lt hf 31 1
  have b5 := sg_lt hf 24 4
  have hV : bitV ((x1 % 2 : Nat) == 1) = x1 % 2 := by
    unfold bitV
    split
    · rename_i h; rw [beq_iff_eq] at h; omega
    · rename_i h; rw [beq_iff_eq] at h; omega
  have e1 : [] ++ vb 32764 15 = bitL L 15 := by rw [← bitL_zero L]; exact vb_of L 0 15 (by omega)
  have e2 := vb_of L 15 1 (x := bitV ((x1 % 2 : Nat) == 1)) (by rw [hV]; omega)
  have e3 := vb_of L 16 4 (x := x2 / 16) (by omega)
  have e4 := vb_of L 20 4 (x := x2 % 16) (by omega)
  have e5 := vb_of L 24 4 (x := x3 / 16) (by omega)
  have e6 := vb_of L 28 3 (x := x3 / 2 % 8) (by omega)
  have e7 := vb_of L 31 1 (x := 0) (by omega)
  rw [hdI0, e1, e2, e3, e4, e5, e6, e7, hN]
  exact bitL_by8_at L 4 _ hc
theorem pkL_bits (L : List UInt8) (k : Nat) (h : k ≤ L.length) : pkL (bitL L (8 * k)) = L.take k := by
  have e : bitL L (8 * k) = bitL (L.take k) (8 * (L.take k).length) := by
    rw [List.length_take, Nat.min_eq_left h]
    unfold bitL
    refine List.map_congr_left fun i hi => ?_
    have hi := List.mem_range.1 hi
    conv => lhs; rw [← List.take_append_drop k L]
    exact bitAt_left _ _ _ (by rw [List.length_take]; omega)
  rw [e, pkL_bitL]

/-- What Read answers: an error, or a header that may be, of so many bytes as are written of it. -/
theorem read_ok {l : List UInt8} {x : Hd} {n : Nat} {f : Int} (R : ReadRel l x n f) :
    (f ≠ 0 ∧ x = Hd.zero ∧ n = 0) ∨ (f = 0 ∧ chkE x = 0 ∧ 6 ≤ n ∧ n ≤ 16 ∧ n ≤ l.length ∧ hdB x = l.take n ∧ x.r ≤ 100000000) := by
  obtain ⟨x1, x2, x3, t4, e9, HH, R⟩ := R
  rcases R with ⟨he, rfl, rfl, rfl⟩ | ⟨rfl, R⟩
  · exact .inl ⟨he, rfl, rfl⟩
  rcases R with ⟨he, rfl, rfl, rfl⟩ | ⟨hE, bb, rr, at_, e, HT, R⟩
  · exact .inl ⟨he, rfl, rfl⟩
  rcases R with ⟨he, rfl, rfl, rfl⟩ | ⟨rfl, rfl, rfl, rfl⟩
  · exact .inl ⟨he, rfl, rfl⟩
  right
  obtain ⟨hl4, -, h0, h1, h2, h3, k1, kb, kr, km, kd, k3⟩ := head_post HH
  obtain ⟨hg, hm⟩ := fstE_two _ _ hE
  have hm2 : ¬ ((C3.getR (n8 (l.drop 4))).1 : Int) ≥ mostV ((x1 % 2 : Nat) == 1) := by
    intro hq
    rw [decide_eq_true hq] at hm
    cases hm
  obtain ⟨hN, hS, hSl, hco⟩ := C3.getR_ok (n8 (l.drop 4)) (fun x hx => n8_lt hx) (by omega)
  generalize (C3.getR (n8 (l.drop 4))).1 = N at *
  rw [hS] at HT
  have hS7 := C3.szN_pos N
  have hSl' : C3.szN N ≤ l.length - 4 := by simpa [n8] using hSl
  have hlen : (l.take 16).length = min 16 l.length := List.length_take
  have hll : 4 ≤ l.length := by omega
  have hcod : codB N = ((l.take 16).drop 4).take (C3.szN N) := by
    refine codB_n8 N hN _ ?_
    rw [hco, List.drop_take, List.take_take, Nat.min_eq_left (by omega)]
    simp [n8, List.map_take]
  obtain ⟨t6, t8, e7, e8, HB, HR, rfl, hz⟩ := HT
  obtain ⟨z1, z2⟩ := wrE_zero (by decide) hz.symm
  obtain ⟨z3, z4, -, z6⟩ := take_ok 8 8 rfl (by decide) (by decide) z1
  rw [bne_eq_false_iff_eq, z6] at z2
  have bq : x2 < 256 := by rw [← h2]; exact sg_lt (bitAt_lt _) _ 8
  have bx3 : x3 < 256 := by rw [← h3]; exact sg_lt (bitAt_lt _) _ 8
  have t6le : t6 ≤ 8 * (l.take 16).length := by
    rcases HR with ⟨hk, -, ht, hh⟩ | ⟨-, -, ht, -⟩
    · rw [z3] at hh
      have hun : unN ((x2 % 16 : Nat) : Int) = 8 ∨ unN ((x2 % 16 : Nat) : Int) = 16 := by unfold unN; split <;> omega
      obtain ⟨-, q1, -, -⟩ := take_ok (unN ((x2 % 16 : Nat) : Int)) _ rfl (by omega) (by omega) hh.symm
      omega
    · omega
  obtain ⟨r1, r2, r3, r4, r5, r6⟩ := rat_post (by omega) HR z3 t6le
  obtain ⟨b1, b2, b3, b4⟩ := blk_post (by omega) kb HB r1 (by omega)
  have hbw := blW_cases ((x2 / 16 : Nat) : Int)
  have hrw := raW_cases ((x2 % 16 : Nat) : Int)
  have hI : hdI ⟨(x1 % 2 : Nat) == 1, (x2 / 16 : Nat), (x2 % 16 : Nat), (x3 / 16 : Nat), (x3 / 2 % 8 : Nat), N, bb, rr, depL.getD (x3 / 2 % 8) 0⟩ = bitL (l.take 16) t8 := by
    rw [hdI_eq, hdI0_post h0 h1 h2 h3 k1 k3 (by omega) hcod, show 8 * (4 + C3.szN N) = (4 + C3.szN N) * 8 from by omega, b2, r3]
  obtain ⟨K, hK⟩ : ∃ K, t8 = 8 * K := ⟨t8 / 8, by omega⟩
  subst hK
  rw [show 8 * K / 8 = K from by omega] at z2 ⊢
  have hpk : pkL (bitL (l.take 16) (8 * K)) = l.take K := by rw [pkL_bits _ _ (by omega), List.take_take, Nat.min_eq_left (by omega)]
  refine ⟨rfl, hd_check (by omega) (by omega) km (by omega) kb kr kd (by omega) b1 r2, by omega, by omega, by omega, ?_, r6⟩
  rw [hdB, hI, hpk]
  have hKl : K < l.length := by omega
  have hx : C2.crc8 0 (l.take K) = (l[K]).toNat := by
    have h8 := sg_byte (l.take 16) (8 * K) 8 (by omega)
    rw [show 8 * K / 8 = K from by omega, show 8 * K % 8 = 0 from by omega] at h8
    have hget : (l.take 16).getD K 0 = l[K] := by
      rw [List.getD_eq_getElem?_getD, List.getElem?_take_of_lt (by omega), List.getElem?_eq_getElem hKl]; rfl
    rw [hget] at h8
    have := (l[K]).toNat_lt
    have h9 : l[K].toNat / 2 ^ (8 - 0 - 8) % 2 ^ 8 = l[K].toNat := by
      show l[K].toNat / 1 % 256 = _
      omega
    omega
  rw [hx, UInt8.ofNat_toNat, List.take_succ_eq_append_getElem hKl]
end Go.Proofs.YtgohfbfdhdepnaaDoor

namespace Go.Proofs.YtgohfbfdhdepnaaDoor
open Go.RowKit

def awH : Hd := ⟨false, 12, 9, 10, 4, 0, 4096, 44100, 16⟩
theorem awE : mkE false 0 4096 10 44100 2 16 = 0 := by decide +kernel
theorem awR : mkR false 0 4096 10 44100 2 16 = awH := by unfold mkR; rw [if_pos awE]; kernel_rfl
theorem awC : chkE awH = 0 := by decide +kernel
theorem awL : (hdB awH).length = 6 := by decide +kernel
theorem awT : (hdB awH).take 5 = [255, 248, 201, 168, 0] := by decide +kernel
theorem awB : ¬ badM 4096 44100 16 := by decide +kernel

set_option maxRecDepth 100000 in
set_option maxHeartbeats 2000000 in
theorem awake_any (w : World) (ht : HTabs w) : Calls Tryd.prog 12 #[] w fun e w' => e = .returned (.bool true) ∧ Below w.heap.size w w' := by
  have HT := Lib.hid ht
  have HM := Lib.hid (fun W (hb : Below w.heap.size w W) => Make_any false 0 4096 10 44100 2 16 awB W (ht.below hb))
  have HW := Lib.hid (fun W (hb : Below w.heap.size w W) => Write_ok awH (by decide) awC W (ht.below hb))
  rw [awE, awR] at HM
  rw [awL] at HW
  simp only [Hd.val, awH] at HM
  have HWv : Hid (∀ W, Below w.heap.size w W → Calls Tryd.prog 10 #[.agg #[.bool false, .int .i64 12, .int .i64 9, .int .i64 10, .int .i64 4, .int .i64 0, .int .i64 4096, .int .i64 44100, .int .i64 16]] W fun e w' => ∃ v, e = .returned (.tuple #[v, .int .i64 0]) ∧ Hid (w'.ownsRow W.heap.size 5 1 v 6 (bv (hdB awH))) ∧ Below W.heap.size W w') := HW.out
  clear HW ht
  have HT5 : Hid ((hdB awH).take 5 = [255, 248, 201, 168, 0]) := awT
  have HL : Hid ((hdB awH).length = 6) := awL
  generalize hdB awH = F at *
  go_enter Tryd.func12, Tryd.ntmps12
  go_wp2_with fail
  refine (HM.out _ (Below.refl _ _)).mono ?_
  rintro e w1 ⟨rfl, hb1⟩
  clear HM
  go_wp2_with fail
  refine (HWv.out _ (bal hb1 _)).mono ?_
  rintro e w2 ⟨v, rfl, Hown, hb2⟩
  obtain ⟨A, c, rfl, hc, hc63, hr, hn⟩ := own_rd4 Hown.out
  have hb3 : Below w.heap.size w w2 := bnext (bal hb1 _) hb2
  have hr5 : Rd w2 A (bv [255, 248, 201, 168, 0]) := by
    have h := hr.take 5
    rw [show (bv F).take 5 = bv (F.take 5) from by simp [bv], HT5.out] at h
    exact h
  clear HWv hb1 hb2 Hown hr hn
  have hc5 : 5 ≤ c := by omega
  go_wp2_with fail
  have h := Rd.new w2 #[.int .u8 255, .int .u8 248, .int .u8 201, .int .u8 168, .int .u8 0] 5
  refine (bytes_any [255, 248, 201, 168, 0] [255, 248, 201, 168, 0] A _ c 5 _ (hr5.alloc _) h (by decide)).mono ?_
  rintro e w4 ⟨rfl, hb4⟩
  have hb5 : Below w.heap.size w w4 := bnext (bal hb3 _) hb4
  go_wp2_with fail
  go_ret
  exact ⟨rfl, hb5⟩
end Go.Proofs.YtgohfbfdhdepnaaDoor

namespace Go.Proofs.YtgohfbfdhdepnaaDoor
open Go.RowKit

noncomputable def bkBody : Code := (Tryd.f6.body).getD .skip
theorem Hd.val_zero : Hd.zero.val = .agg #[.bool false, .int .i64 0, .int .i64 0, .int .i64 0, .int .i64 0, .int .i64 0, .int .i64 0, .int .i64 0, .int .i64 0] := rfl

set_option maxRecDepth 1000000 in
set_option maxHeartbeats 4000000 in
theorem bkTail (l : List UInt8) (A : Option Addr) (c : Nat) (w W : World) (HB : Hid (Below w.heap.size w W)) (HR : Hid (Rd w A (bv l))) (hl : l.length ≤ 60) (hc : l.length ≤ c) (Hn : Hid (A = none → l.length = 0 ∧ c = 0)) (HT : Hid (HTabs w))
    (u0 u2 u3 u4 u5 u6 u7 u8 u9 u10 u11 u12 u13 u14 u15 u16 u17 u18 u19 u20 u21 u22 u23 u24 u25 u26 u27 u28 u29 u30 u31 u32 u33 u34 u35 u36 u37 u38 u39 u40 u41 u42 u43 u44 u45 u46 u47 u48 u49 u50 u51 u52 u53 u54 u55 u56 u57 u58 u59 u60 u61 u62 u63 u64 u65 u66 u67 u68 u69 u70 u71 u72 u73 u74 u75 u76 u77 u78 u79 u80 u81 u82 u83 u84 u85 u86 u87 u88 u89 u90 u91 u92 u93 u94 u95 u96 u97 u98 u99 u100 u101 u102 u103 u104 u105 u106 u107 u108 u109 u110 u111 u112 u113 u114 u115 u116 u117 u118 u119 u120 : Value) :
    Code.wp Tryd.prog (cdrC 4 bkBody) (bodyPost Tryd.prog Tryd.f6 fun e w' => e = .returned (.bool true) ∧ Below w.heap.size w w') ⟨#[u0, .slice A l.length c, u2, u3, u4, u5, u6, u7, u8, u9, u10, u11, u12, u13, u14, u15, u16, u17, u18, u19, u20, u21, u22, u23, u24, u25, u26, u27, u28, u29, u30, u31, u32, u33, u34, u35, u36, u37, u38, u39, u40, u41, u42, u43, u44, u45, u46, u47, u48, u49, u50, u51, u52, u53, u54, u55, u56, u57, u58, u59, u60, u61, u62, u63, u64, u65, u66, u67, u68, u69, u70, u71, u72, u73, u74, u75, u76, u77, u78, u79, u80, u81, u82, u83, u84, u85, u86, u87, u88, u89, u90, u91, u92, u93, u94, u95, u96, u97, u98, u99, u100, u101, u102, u103, u104, u105, u106, u107, u108, u109, u110, u111, u112, u113, u114, u115, u116, u117, u118, u119, u120], []⟩ W := by
  conv => arg 2; whnf
  have HA := Lib.hid (fun W (hb : Below w.heap.size w W) => awake_any W (HT.out.below hb))
  have HRd := Lib.hid (Read_any l A c W (HR.out.below HB.out) (by omega) hc Hn.out (HT.out.below HB.out))
  go_wp2_with fail
  refine HRd.out.mono ?_
  rintro z w1 ⟨x, n, f, rfl, R, hb1⟩
  have Hb1 := Lib.hid (bnext HB.out hb1)
  have HK := Lib.hid (read_ok R)
  clear HRd hb1 R
  by_cases hf : f = 0
  · subst hf
    rcases HK.out with ⟨h, -⟩ | ⟨-, hck, h6, h16, hnl, hB, hr63⟩
    · exact absurd rfl h
    have HW := Lib.hid (fun W (hb : Below w.heap.size w W) => Write_ok x (by omega) hck W (HT.out.below hb))
    have HBy := Lib.hid (fun (A1 : Option Addr) c1 W (h1 : Rd W A1 (bv (hdB x))) (h2 : Rd W A (bv (l.take n))) => bytes_any (hdB x) (l.take n) A1 A c1 c W h1 h2 (by rw [hB, List.length_take]; omega))
    have hlen : (l.take n).length = n := by rw [List.length_take]; omega
    rw [hB, hlen] at HW
    rw [hB, hlen] at HBy
    have HRn : Hid (∀ W, Below w.heap.size w W → Rd W A (bv (l.take n))) := fun W hb => by
      have h := (HR.out.below hb).take n
      rwa [show (bv l).take n = bv (l.take n) from by simp [bv]] at h
    generalize l.take n = ln at *
    clear hck hB HK hlen
    obtain ⟨V, bc, rc, m, dc, nn, b, r, d⟩ := x
    simp only [Hd.val] at HW ⊢
    clear hr63
    have hn6 : (n : Int) ≥ 6 := by omega
    have hn16 : (n : Int) ≤ 16 := by omega
    have hnl' : (n : Int) ≤ l.length := by omega
    have hnc : (n : Int) ≤ c := by omega
    go_wp2_with fail
    refine (HW.out _ (bal Hb1.out _)).mono ?_
    rintro e w2 ⟨v, rfl, Hown, hb2⟩
    obtain ⟨A1, c1, rfl, hc1, hr1⟩ := own_rd Hown.out
    have Hb2 := Lib.hid (bnext (bal Hb1.out _) hb2)
    have HBy2 : Hid (Calls Tryd.prog 13 #[.slice A1 n c1, .slice A n c] w2 fun e w' => e = .returned (.bool true) ∧ Below w2.heap.size w2 w') := by
      have h := HBy.out A1 c1 w2 hr1 (HRn.out w2 Hb2.out)
      show Calls _ _ _ _ _
      simpa using h
    clear HW hb2 Hown hr1 hc1 HBy HRn Hb1
    go_wp2_with fail
    refine HBy2.out.mono ?_
    rintro e w3 ⟨rfl, hb3⟩
    have Hb3 := Lib.hid (bnext Hb2.out hb3)
    clear hb3 HBy2
    go_wp2_with fail
    refine (HA.out _ Hb3.out).mono ?_
    rintro e w4 ⟨rfl, hb4⟩
    have Hb4 := Lib.hid (bnext Hb3.out hb4)
    clear hb4 HA
    go_wp2_with fail
    go_ret
    exact ⟨rfl, Hb4.out⟩
  · rcases HK.out with ⟨-, rfl, rfl⟩ | ⟨h, -⟩
    · clear HK
      rw [Hd.val_zero]
      have hf' : (f != 0) = true := by rw [bne_iff_ne]; exact hf
      go_wp2_with fail
      refine (HA.out _ (bal Hb1.out _)).mono ?_
      rintro e w4 ⟨rfl, hb4⟩
      have Hb4 := Lib.hid (bnext (bal Hb1.out _) hb4)
      clear hb4 HA
      go_wp2_with fail
      go_ret
      exact ⟨rfl, Hb4.out⟩
    · exact absurd h hf
end Go.Proofs.YtgohfbfdhdepnaaDoor

namespace Go.Proofs.YtgohfbfdhdepnaaDoor
open Go.RowKit

set_option maxRecDepth 1000000 in
set_option maxHeartbeats 4000000 in
theorem back_walk (h : Hd) (hr63 : h.r ≤ 9223372036854775807) (l : List UInt8) (A : Option Addr) (c : Nat) (w : World) (hr : Rd w A (bv l)) (hc : l.length ≤ c) (hn : A = none → l.length = 0 ∧ c = 0) (ht : HTabs w) :
    Calls Tryd.prog 6 #[h.val, .slice A l.length c] w fun e w' => e = .returned (.bool true) ∧ Below w.heap.size w w' := by
  have HT := Lib.hid ht
  have HR := Lib.hid hr
  have Hn := Lib.hid hn
  have HA := Lib.hid (fun W (hb : Below w.heap.size w W) => awake_any W (ht.below hb))
  have Hb0 : Hid (Below w.heap.size w (w.alloc (.cells h.cells 23))) := bal (Below.refl _ _) _
  have HB0 : Hid (HdAt (w.alloc (.cells h.cells 23)) w.heap.size h) := heap_alloc_last w _
  clear ht hr hn
  by_cases hl : 60 < l.length
  case pos =>
    obtain ⟨V, bc, rc, m, dc, n, b, r, d⟩ := h
    simp only [Hd.val, Hd.cells] at Hb0 HB0 ⊢
    have hl' : (60 : Int) < l.length := by omega
    go_enter Tryd.func6, Tryd.ntmps6
    go_wp2_with fail
    refine (HA.out _ Hb0.out).mono ?_
    rintro e w1 ⟨rfl, hb1⟩
    have Hb1 := Lib.hid (bnext Hb0.out hb1)
    clear hb1
    go_wp2_with fail
    go_ret
    exact ⟨rfl, Hb1.out⟩
  have hl' : ¬ (60 : Int) < l.length := by omega
  have hl60 : l.length ≤ 60 := by omega
  by_cases hk : chkE h = 0
  case neg =>
    have HW := Lib.hid (fun W (hb : Below w.heap.size w W) => Write_no h hr63 hk W (HT.out.below hb))
    have hx : (chkE h == 0) = false := by rw [beq_eq_false_iff_ne]; exact hk
    generalize chkE h = xc at *
    obtain ⟨V, bc, rc, m, dc, n, b, r, d⟩ := h
    simp only [Hd.val, Hd.cells] at HW Hb0 HB0 ⊢
    clear hr63 hk HB0
    go_enter Tryd.func6, Tryd.ntmps6
    go_wp2_with fail
    refine (HW.out _ Hb0.out).mono ?_
    rintro e w1 ⟨rfl, hb1⟩
    have Hb1 := Lib.hid (bnext Hb0.out hb1)
    clear hb1 HW Hb0
    go_upto_if 30 with fail
    go_cut [] (fun wx => wx = w1)
    case first =>
      go_wp2_with fail
      go_meet
      rfl
    case rest =>
      subst hcut
      go_step
      exact bkTail l A c w _ Hb1 HR hl60 hc Hn HT _ _ _ _ _ _ _ _ _ _ _ _ _ _ _ _ _ _ _ _ _ _ _ _ _ _ _ _ _ _ _ _ _ _ _ _ _ _ _ _ _ _ _ _ _ _ _ _ _ _ _ _ _ _ _ _ _ _ _ _ _ _ _ _ _ _ _ _ _ _ _ _ _ _ _ _ _ _ _ _ _ _ _ _ _ _ _ _ _ _ _ _ _ _ _ _ _ _ _ _ _ _ _ _ _ _ _ _ _ _ _ _ _ _ _ _ _ _ _ _ 
  case pos =>
    have HW := Lib.hid (fun W (hb : Below w.heap.size w W) => Write_ok h hr63 hk W (HT.out.below hb))
    have HP := Lib.hid (fun (l' d' b' : List UInt8) (hl : l' ++ d' = hdB h ++ b') x n f (R : ReadRel l' x n f) => read_pre hk hl R)
    have hFl : (hdB h).length ≤ 16 := by
      have h1 := hdB_length h
      have h2 := hdI_length h
      rw [blkI_length, ratI_length] at h2
      have h3 := (C3.szN_pos h.n.toNat).2
      have h4 := blW_cases (h.bc.toNat : Nat)
      have h5 := raW_cases (h.rc.toNat : Nat)
      omega
    have hF0 : 0 < (hdB h).length := by rw [hdB_length]; omega
    generalize hdB h = F at *
    obtain ⟨V, bc, rc, m, dc, n, b, r, d⟩ := h
    simp only [Hd.val, Hd.cells] at HW Hb0 HB0 ⊢
    clear hr63 hk
    go_enter Tryd.func6, Tryd.ntmps6
    go_wp2_with fail
    refine (HW.out _ Hb0.out).mono ?_
    rintro e w1 ⟨v, rfl, Hown, hb1⟩
    obtain ⟨A1, c1, rfl, hc1, hr1, hn1⟩ := own_nilcap Hown.out
    have Hn1 : Hid (A1 = none → F.length = 0 ∧ c1 = 0) := fun k => by have := hn1 k; omega
    have Hr1 := Lib.hid hr1
    have Hb1 := Lib.hid (bnext Hb0.out hb1)
    have HB1 : Hid (HdAt w1 w.heap.size ⟨V, bc, rc, m, dc, n, b, r, d⟩) := HB0.out.below hb1
    clear hb1 HW Hb0 HB0 Hown hr1
    go_upto_if 30 with fail
    go_cut [] (fun wx => Below w.heap.size w wx)
    case rest =>
      go_step
      exact bkTail l A c w _ hcut HR hl60 hc Hn HT _ _ _ _ _ _ _ _ _ _ _ _ _ _ _ _ _ _ _ _ _ _ _ _ _ _ _ _ _ _ _ _ _ _ _ _ _ _ _ _ _ _ _ _ _ _ _ _ _ _ _ _ _ _ _ _ _ _ _ _ _ _ _ _ _ _ _ _ _ _ _ _ _ _ _ _ _ _ _ _ _ _ _ _ _ _ _ _ _ _ _ _ _ _ _ _ _ _ _ _ _ _ _ _ _ _ _ _ _ _ _ _ _ _ _ _ _ _ _ _ 
    case first =>
      have Hlf : Hid ((bv F).length = F.length) := by show _ = _; simp [bv]
      have Hlb : Hid ((bv l).length = l.length) := by show _ = _; simp [bv]
      have HR1 := Lib.hid (HR.out.below Hb1.out)
      have Hc0 : Hid (A = none → c = 0) := fun k => (Hn.out k).2
      have Hone : Hid (∀ (l : List UInt8), ∀ u ∈ bv l, u.oneCell' = true) := fun l => bv_one l
      go_upto_region 7 with (at_builtin; refine appN (w0 := w1) (base := w1.heap.size) rfl _ _ 28 rfl Tryd.underlying28 C3.info_u8 rfl rfl (World.ownsRow_nil w1 w1.heap.size _ 1) (Nat.le_refl _) (Nat.le_refl _) (Below.refl _ _) rfl Hr1.out Hlf.out hn1 (Hone.out F) (by omega) (by unfold maxLen; omega) ?_; intro v1 w2 own1 hb2 hs2 hnil2; rw [List.nil_append, Nat.zero_add] at own1; have Hown1 := Lib.hid own1; have Hb2 := Lib.hid hb2; clear own1 hb2 hnil2)
      have HR2 := Lib.hid (HR1.out.below Hb2.out)
      go_upto_region 8 with (at_builtin; refine appN (w0 := w1) (base := w1.heap.size) rfl _ _ 28 rfl Tryd.underlying28 C3.info_u8 rfl rfl Hown1.out (Nat.le_refl _) hs2 Hb2.out rfl HR2.out Hlb.out Hc0.out (Hone.out l) (by omega) (by unfold maxLen; omega) ?_; intro v2 w3 own2 hb3 hs3 hnil3; have Hown2 := Lib.hid own2; have Hb3 := Lib.hid hb3; clear own2 hb3 hnil3)
      obtain ⟨A3, c3, rfl, hc3, hr3, hn3⟩ := own_nilcap Hown2.out
      have HRd : Hid (Calls Tryd.prog 18 #[.slice A3 (F.length + l.length) c3] w3 fun z w' => z = .returned (.tuple #[Hd.val ⟨V, bc, rc, m, dc, n, b, r, d⟩, .int .i64 F.length, .int .i64 0]) ∧ Below w3.heap.size w3 w') := by
        have e : (F ++ l).length = F.length + l.length := List.length_append
        have h := Read_any (F ++ l) A3 c3 w3 (by rw [bv_append]; exact hr3) (by omega) (by omega) (fun k => by have := hn3 k; omega) (HT.out.below (bnext Hb1.out Hb3.out))
        rw [e] at h
        refine h.mono ?_
        rintro z w' ⟨x, nn, f, rfl, R, hb⟩
        rcases HP.out (F ++ l) [] l (by simp) x nn f R with ⟨-, rfl, rfl, rfl⟩ | ⟨h1, -⟩
        · exact ⟨rfl, hb⟩
        · omega
      have HB3 := Lib.hid (HB1.out.below Hb3.out)
      have Hb13 := Lib.hid (bnext Hb1.out Hb3.out)
      clear hr3 hn3 hc3 Hown1 Hown2 Hb2 HR2 HR1 HB1 hs2 hs3 Hlf Hlb Hone
      simp only [Hd.val] at HRd
      go_wp2_with fail
      refine HRd.out.mono ?_
      rintro z w4 ⟨rfl, hb4⟩
      have HB4 := Lib.hid (HB3.out.below hb4)
      have Hb4 := Lib.hid (bnext Hb13.out hb4)
      have Hb14 := Lib.hid (bnext Hb3.out hb4)
      clear HRd hb4 HB3 Hb13 Hb3
      have HB5 : Hid (HdAt (w4.alloc (.cells (Hd.cells ⟨V, bc, rc, m, dc, n, b, r, d⟩) 23)) w.heap.size ⟨V, bc, rc, m, dc, n, b, r, d⟩) := hrow_alloc HB4.out _
      have HX5 : Hid (HdAt (w4.alloc (.cells (Hd.cells ⟨V, bc, rc, m, dc, n, b, r, d⟩) 23)) w4.heap.size ⟨V, bc, rc, m, dc, n, b, r, d⟩) := heap_alloc_last w4 _
      have Hb5 : Hid (Below w.heap.size w (w4.alloc (.cells (Hd.cells ⟨V, bc, rc, m, dc, n, b, r, d⟩) 23))) := bal Hb4.out _
      have Hb15 : Hid (Below w1.heap.size w1 (w4.alloc (.cells (Hd.cells ⟨V, bc, rc, m, dc, n, b, r, d⟩) 23))) := bal Hb14.out _
      simp only [Hd.cells] at HB5 HX5 Hb5 Hb15
      go_upto_region 9 with fail
      generalize w4.alloc (.cells #[.bool V, .int .i64 bc, .int .i64 rc, .int .i64 m, .int .i64 dc, .int .i64 n, .int .i64 b, .int .i64 r, .int .i64 d] 23) = w5 at *
      clear HB4 Hb4 Hb14
      go_upto_region 11 with (first | (refine wpList_load_row rfl 23 _ rfl w4.heap.size rfl 23 #[.bool V, .int .i64 bc, .int .i64 rc, .int .i64 m, .int .i64 dc, .int .i64 n, .int .i64 b, .int .i64 r, .int .i64 d] (0, 0) _ HX5.out Tryd.underlying23 rfl (by kernel_rfl) ?_) | (refine wpList_load_row rfl 23 _ rfl w.heap.size rfl 23 #[.bool V, .int .i64 bc, .int .i64 rc, .int .i64 m, .int .i64 dc, .int .i64 n, .int .i64 b, .int .i64 r, .int .i64 d] (0, 0) _ HB5.out Tryd.underlying23 rfl (by kernel_rfl) ?_))
      clear HB5 HX5
      go_wp2_with fail
      go_loopw [11] (fun i wr => ∃ k : Nat, k ≤ F.length ∧ i = .int .i64 k ∧ Below w.heap.size w wr ∧ Below w1.heap.size w1 wr) (fun i _ => F.length - (intOf i).toNat)
      case atStart => exact ⟨0, by omega, rfl, Hb5.out, Hb15.out⟩
      case round =>
        obtain ⟨k, hk, rfl, hbw, hbw1⟩ := hrel
        by_cases hkk : k < F.length
        · have HRd : Hid (Calls Tryd.prog 18 #[.slice A1 k c1] wr fun z w' => (∃ x : Hd, z = .returned (.tuple #[.agg x.cells, .int .i64 0, .int .i64 11])) ∧ Below wr.heap.size wr w') := by
            have e : (F.take k).length = k := by rw [List.length_take]; omega
            have h := Read_any (F.take k) A1 c1 wr (by
              have h := (Hr1.out.below hbw1).take k
              rwa [show (bv F).take k = bv (F.take k) from by simp [bv]] at h) (by omega) (by omega) (fun q => by have := (Hn1.out q).1; omega) (HT.out.below hbw)
            rw [e] at h
            refine h.mono ?_
            rintro z w' ⟨x, nn, f, rfl, R, hb⟩
            rcases HP.out (F.take k) (F.drop k) [] (by simp) x nn f R with ⟨h1, -⟩ | ⟨-, rfl⟩
            · omega
            · rcases read_ok R with ⟨-, rfl, rfl⟩ | ⟨h1, -⟩
              · exact ⟨⟨Hd.zero, rfl⟩, hb⟩
              · cases h1
          have kF : (k : Int) < F.length := by omega
          have kc : (k : Int) ≤ c1 := by omega
          have Hbw := Lib.hid hbw
          have Hbw1 := Lib.hid hbw1
          clear hbw hbw1
          go_wp2_with fail
          refine HRd.out.mono ?_
          rintro z w6 ⟨⟨⟨V2, bc2, rc2, m2, dc2, n2, b2, r2, d2⟩, rfl⟩, hb6⟩
          have Hb6 := Lib.hid (bnext Hbw.out hb6)
          have Hb16 := Lib.hid (bnext Hbw1.out hb6)
          clear HRd hb6 Hbw Hbw1
          simp only [Hd.cells]
          go_wp2_with fail
          go_roundw
          case rel => exact ⟨k + 1, by omega, by go_num, bal Hb6.out _, bal Hb16.out _⟩
          case measure => simp [intOf] <;> omega
        · obtain rfl : k = F.length := by omega
          go_wp2_with fail
          go_meet
          exact hbw
end Go.Proofs.YtgohfbfdhdepnaaDoor

namespace Go.Proofs.YtgohfbfdhdepnaaDoor
open Go.ChangeShapes Go.WideShapes Go.ChangeAt Go.RowKit

section
variable {H : Type} {enc : TypeId × Value → H} {P : Program} {W : World} {base : Nat} {spare : Nat → Bool} {held : Bool}

theorem add_block (x : Addr) (i : Nat) : (x.add i).block = x.block := by unfold Addr.add; split <;> rfl

/-- Cells from an address on, read as values. -/
theorem rd_of_cells {x : Addr} {xs : List Value} (h : ∀ i, i < xs.length → W.cell? (x.add i) = xs[i]?) : Rd W (some x) xs := by
  intro j u hu
  have hj : j < xs.length := (List.getElem?_eq_some_iff.1 hu).1
  obtain ⟨b, o, sp⟩ := x
  have h0 := h 0 (by omega)
  rw [List.getElem?_eq_getElem (by omega)] at h0
  have hs : sp = none := by simpa [Addr.add] using World.cell?_spot h0
  subst hs
  refine ⟨b, o, rfl, ?_⟩
  have := h j hj
  rw [hu] at this
  rw [← this]
  unfold Addr.add
  split <;> simp_all

theorem open_int_list {k : IntKind} {t e : TypeId} (ht : P.underlying t = some (.slice e)) (he : P.underlying e = some (.int k)) (hc : P.cellsOf e = 1)
    {A : Option Addr} {n c : Nat} {d : DataW H} {p : List MemPlace} (h : DataW.Trod enc P W base spare held t (.slice A n c) d p) :
    ∃ l : List Int, n = l.length ∧ n ≤ c ∧ c ≤ maxLen ∧ Rd W A (l.map (Value.int k)) ∧ ∀ z ∈ l, (Lit.int k z).wf = true := by
  obtain ⟨fuel, hf⟩ := h
  rcases open_ints ht he hc hf with ⟨hcs, _⟩ | ⟨x, l, cc, zs, hcs, _, hl, hm, hz, _, hcell, hwz⟩
  · simp [Value.cells] at hcs
    obtain ⟨rfl, rfl, rfl⟩ := hcs
    exact ⟨[], rfl, Nat.le_refl _, Nat.zero_le _, Rd.nil _ _, fun z hz => by cases hz⟩
  · simp [Value.cells] at hcs
    obtain ⟨rfl, rfl, rfl⟩ := hcs
    have hlz : n ≤ zs.length := by rw [hz]; split <;> omega
    refine ⟨zs.take n, by rw [List.length_take]; omega, hl, hm, ?_, fun z hz => hwz z (List.mem_of_mem_take hz)⟩
    refine rd_of_cells fun i hi => ?_
    have hi' : i < n := by simp at hi; omega
    rw [hcell i (by omega), List.getElem?_map, List.getElem?_take, if_pos hi', List.getElem?_eq_getElem (by omega)]
    simp [List.getD, show i < zs.length by omega]

theorem open_bytes {t e : TypeId} (ht : P.underlying t = some (.slice e)) (he : P.underlying e = some (.int .u8)) (hc : P.cellsOf e = 1)
    {A : Option Addr} {n c : Nat} {d : DataW H} {p : List MemPlace} (h : DataW.Trod enc P W base spare held t (.slice A n c) d p) :
    ∃ l : List UInt8, n = l.length ∧ n ≤ c ∧ c ≤ maxLen ∧ Rd W A (bv l) := by
  obtain ⟨l, h1, h2, h3, h4, h5⟩ := open_int_list ht he hc h
  refine ⟨l.map fun z => UInt8.ofNat z.toNat, by simpa using h1, h2, h3, ?_⟩
  have : bv (l.map fun z => UInt8.ofNat z.toNat) = l.map (Value.int .u8) := by
    unfold bv
    rw [List.map_map]
    refine List.map_congr_left fun z hz => ?_
    have hw := h5 z hz
    simp only [Lit.wf, IntKind.min, IntKind.max, IntKind.signed, IntKind.bits, Bool.and_eq_true, decide_eq_true_eq] at hw
    simp at hw
    show Value.int .u8 _ = Value.int .u8 _
    congr 1
    rw [UInt8.toNat_ofNat']
    omega
  rw [this]
  exact h4

/-- A nil slice has nothing. -/
theorem open_none {k : IntKind} {t e : TypeId} (ht : P.underlying t = some (.slice e)) (he : P.underlying e = some (.int k)) (hc : P.cellsOf e = 1)
    {A : Option Addr} {n c : Nat} {d : DataW H} {p : List MemPlace} (h : DataW.Trod enc P W base spare held t (.slice A n c) d p) : A = none → n = 0 ∧ c = 0 := by
  rintro rfl
  obtain ⟨fuel, hf⟩ := h
  rcases open_ints ht he hc hf with ⟨hcs, _⟩ | ⟨x, l, cc, zs, hcs, _⟩
  · simp [Value.cells] at hcs
    exact hcs
  · simp [Value.cells] at hcs

theorem okWide_agg {t : TypeId} {n : Nat} {e : TypeId} {w : World} {r : Reach} {b : Nat} {v : Value} (ht : P.underlying t = some (.array n e)) (h : Value.okWide P w r b t v) : ∃ cs, v = .agg cs ∧ cs.size = P.cellsOf t := by
  simp only [Value.okWide, ht] at h
  obtain ⟨cs, h1, h2, _⟩ := h
  exact ⟨cs, h1, h2⟩
/-- An array of whole numbers. -/
theorem open_int_arr {k : IntKind} {t e : TypeId} {n : Nat} (ht : P.underlying t = some (.array n e)) (he : P.underlying e = some (.int k)) (hc : P.cellsOf e = 1) (hct : P.cellsOf t = n)
    {v : Value} (hv : ∃ cs, v = .agg cs ∧ cs.size = P.cellsOf t) {d : DataW H} {p : List MemPlace} (h : DataW.Trod enc P W base spare held t v d p) :
    ∃ zs : List Int, zs.length = n ∧ v = .agg (zs.map (Value.int k)).toArray ∧ ∀ z ∈ zs, (Lit.int k z).wf = true := by
  obtain ⟨cs, rfl, hsz⟩ := hv
  obtain ⟨fuel, hf⟩ := h
  obtain ⟨xs, m, _, _, hl, hxl, hx⟩ := DataW.trod_array ht hf
  have key : ∀ i, i < n → ∃ z, cs[i]? = some (.int k z) ∧ (Lit.int k z).wf = true := by
    intro i hi
    have hi' : i < cs.size := by omega
    have h1 := hx i hi
    rw [hc, Nat.mul_one] at h1
    have e1 : (((Value.agg cs).cells.toList.drop i).take 1) = [cs[i]] := by
      show ((cs.toList.drop i).take 1) = _
      rw [List.drop_eq_getElem_cons (by simpa using hi')]
      simp
    rw [e1, List.getElem?_eq_getElem (by omega)] at h1
    obtain ⟨z, hz, _, hw⟩ := DataW.trod_int he h1
    refine ⟨z, ?_, hw⟩
    rw [Array.getElem?_eq_getElem hi']
    simpa using hz
  let f : Nat → Int := fun i => match cs[i]? with | some (.int _ z) => z | _ => 0
  refine ⟨(List.range n).map f, by simp, ?_, ?_⟩
  · congr 1
    refine Array.ext (by simp; omega) fun i h1 h2 => ?_
    obtain ⟨z, hz, _⟩ := key i (by omega)
    have : f i = z := by simp only [f, hz]
    simp [this]
    rw [Array.getElem?_eq_getElem h1] at hz
    exact Option.some.inj hz
  · intro z hz
    simp only [List.mem_map, List.mem_range] at hz
    obtain ⟨i, hi, rfl⟩ := hz
    obtain ⟨z, hz, hw⟩ := key i hi
    have : f i = z := by simp only [f, hz]
    rw [this]; exact hw

theorem i64_bounds {a : Int} (h : (Lit.int .i64 a).wf = true) : -9223372036854775808 ≤ a ∧ a ≤ 9223372036854775807 := by
  simp only [Lit.wf, IntKind.min, IntKind.max, IntKind.signed, IntKind.bits, Bool.and_eq_true, decide_eq_true_eq] at h
  simp at h
  omega
end
end Go.Proofs.YtgohfbfdhdepnaaDoor

namespace Go.Proofs.YtgohfbfdhdepnaaDoor
open Go.ChangeShapes Go.WideShapes Go.ChangeAt Go.RowKit Go.Joins Go.Deep

section
variable {H : Type} {enc : TypeId × Value → H} {W : World} {base : Nat} {spare : Nat → Bool} {held : Bool}
theorem array9 {cs : Array Value} (h : cs.size = 9) : ∃ x0 x1 x2 x3 x4 x5 x6 x7 x8, cs = #[x0, x1, x2, x3, x4, x5, x6, x7, x8] := by
  obtain ⟨l⟩ := cs
  match l, h with
  | [x0, x1, x2, x3, x4, x5, x6, x7, x8], _ => exact ⟨x0, x1, x2, x3, x4, x5, x6, x7, x8, rfl⟩
theorem c_int : Tryd.prog.cellsOf 3 = 1 := by kernel_rfl
theorem c_bool : Tryd.prog.cellsOf 4 = 1 := by kernel_rfl
theorem c_hdr : Tryd.prog.cellsOf 23 = 9 := by kernel_rfl
set_option maxHeartbeats 1000000 in
theorem open_hd {r : Reach} {b0 : Nat} {v : Value} {d : DataW H} {p : List MemPlace} (hv : Value.okWide Tryd.prog W r b0 23 v) (h : DataW.Trod enc Tryd.prog W base spare held 23 v d p) :
    ∃ x : Hd, v = x.val ∧ (∀ z ∈ [x.bc, x.rc, x.m, x.dc, x.n, x.b, x.r, x.d], (Lit.int .i64 z).wf = true) := by
  obtain ⟨cs, rfl, hsz⟩ := okWide_struct Tryd.underlying23 hv
  obtain ⟨x0, x1, x2, x3, x4, x5, x6, x7, x8, rfl⟩ := array9 (hsz.trans c_hdr)
  obtain ⟨fuel, hf⟩ := h
  obtain ⟨ys, n, rfl, -, -, hl, hx⟩ := DataW.trod_struct Tryd.underlying23 hf
  have hl' : ys.length = 9 := hl
  match ys, hl' with
  | [y0, y1, y2, y3, y4, y5, y6, y7, y8], _ =>
    have g0 := hx 0 _ rfl
    have g1 := hx 1 _ rfl
    have g2 := hx 2 _ rfl
    have g3 := hx 3 _ rfl
    have g4 := hx 4 _ rfl
    have g5 := hx 5 _ rfl
    have g6 := hx 6 _ rfl
    have g7 := hx 7 _ rfl
    have g8 := hx 8 _ rfl
    clear hx hf hv
    simp only [c_bool, c_int, Value.cells, List.drop_zero, List.drop_succ_cons, List.take_succ_cons, List.take_zero, List.getElem?_cons_zero, List.getElem?_cons_succ] at g0 g1 g2 g3 g4 g5 g6 g7 g8
    obtain ⟨a0, e0, -⟩ := DataW.trod_bool Tryd.underlying4 g0
    obtain ⟨a1, e1, -, w1⟩ := DataW.trod_int Tryd.underlying3 g1
    obtain ⟨a2, e2, -, w2⟩ := DataW.trod_int Tryd.underlying3 g2
    obtain ⟨a3, e3, -, w3⟩ := DataW.trod_int Tryd.underlying3 g3
    obtain ⟨a4, e4, -, w4⟩ := DataW.trod_int Tryd.underlying3 g4
    obtain ⟨a5, e5, -, w5⟩ := DataW.trod_int Tryd.underlying3 g5
    obtain ⟨a6, e6, -, w6⟩ := DataW.trod_int Tryd.underlying3 g6
    obtain ⟨a7, e7, -, w7⟩ := DataW.trod_int Tryd.underlying3 g7
    obtain ⟨a8, e8, -, w8⟩ := DataW.trod_int Tryd.underlying3 g8
    injection e0 with e0; injection e1 with e1; injection e2 with e2; injection e3 with e3; injection e4 with e4; injection e5 with e5; injection e6 with e6; injection e7 with e7; injection e8 with e8
    subst e0; subst e1; subst e2; subst e3; subst e4; subst e5; subst e6; subst e7; subst e8
    refine ⟨⟨a0, a1, a2, a3, a4, a5, a6, a7, a8⟩, rfl, ?_⟩
    intro z hz
    simp only [List.mem_cons, List.not_mem_nil, or_false] at hz
    rcases hz with rfl | rfl | rfl | rfl | rfl | rfl | rfl | rfl <;> assumption
end
end Go.Proofs.YtgohfbfdhdepnaaDoor

namespace Go.Proofs.YtgohfbfdhdepnaaDoor
open Go.ChangeShapes Go.WideShapes Go.ChangeAt Go.RowKit

def laidL : List (String × DataW Unit) := [("jetsam/coded.limits", Rows.laid_jetsam_coded_limits), ("jetsam/header.blocks", Rows.laid_jetsam_header_blocks), ("jetsam/header.rates", Rows.laid_jetsam_header_rates), ("jetsam/header.depths", Rows.laid_jetsam_header_depths)]
theorem gLim : Tryd.prog.globalNamed "jetsam/coded.limits" = some 3 := by kernel_rfl
theorem tLim : (Tryd.prog.globals[3]?).map (·.type) = some 64 := by kernel_rfl
theorem gBlk : Tryd.prog.globalNamed "jetsam/header.blocks" = some 0 := by kernel_rfl
theorem tBlk : (Tryd.prog.globals[0]?).map (·.type) = some 57 := by kernel_rfl
theorem gRat : Tryd.prog.globalNamed "jetsam/header.rates" = some 1 := by kernel_rfl
theorem tRat : (Tryd.prog.globals[1]?).map (·.type) = some 57 := by kernel_rfl
theorem gDep : Tryd.prog.globalNamed "jetsam/header.depths" = some 2 := by kernel_rfl
theorem tDep : (Tryd.prog.globals[2]?).map (·.type) = some 64 := by kernel_rfl
/-- The door's own heap meets the condition. -/
theorem door_met (os : Os) (args : Array Value) : laidMetH Tryd.prog laidL ((World.doorLaid Tryd.prog 29 os).forCall (fun _ _ => 0) ⟨#[], args, []⟩).memory :=
  laidMetH_of_parts3 (fuel := 8) (laidMet_of_run' 8 (by kernel_rfl) (by kernel_rfl)) (by kernel_rfl) (by kernel_rfl)
theorem of_laid {W : World} (h : laidMetH Tryd.prog laidL W) : HTabs W := by
  rw [MakeChecks.laidMetH_plain _ _ _ (by kernel_rfl)] at h
  have h0 : Lib.TabIs Tryd.prog W "jetsam/coded.limits" .i64 C3.limL := Lib.tabIs_of_head gLim tLim Tryd.underlying64 Tryd.underlying3 (by kernel_rfl) (by kernel_rfl) (rest := _) h
  obtain ⟨ps, h1⟩ := laidMet.tail h
  have hb : Lib.TabIs Tryd.prog W "jetsam/header.blocks" .i64 blkL := Lib.tabIs_of_head gBlk tBlk Tryd.underlying57 Tryd.underlying3 (by kernel_rfl) (by kernel_rfl) (rest := _) ⟨ps, h1⟩
  obtain ⟨ps2, h2⟩ := laidMet.tail (show laidMet _ _ _ from ⟨ps, h1⟩)
  have hr : Lib.TabIs Tryd.prog W "jetsam/header.rates" .i64 ratL := Lib.tabIs_of_head gRat tRat Tryd.underlying57 Tryd.underlying3 (by kernel_rfl) (by kernel_rfl) (rest := _) ⟨ps2, h2⟩
  obtain ⟨ps3, h3⟩ := laidMet.tail (show laidMet _ _ _ from ⟨ps2, h2⟩)
  have hd : Lib.TabIs Tryd.prog W "jetsam/header.depths" .i64 depL := Lib.tabIs_of_head gDep tDep Tryd.underlying64 Tryd.underlying3 (by kernel_rfl) (by kernel_rfl) (rest := _) ⟨ps3, h3⟩
  exact ⟨fun i hi => hb.cell gBlk i hi, fun i hi => hr.cell gRat i hi, fun i hi => hd.cell gDep i hi, fun i hi => h0.cell gLim i hi⟩
end Go.Proofs.YtgohfbfdhdepnaaDoor
