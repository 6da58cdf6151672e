/-
  stereo.size, stereo.Best; jetsamref09.Best; StereoBest's walk.
-/
import Derived.Test.YtpjicibngdlhbaaTurns09
namespace Go.Proofs.Ytpjicibngdlhbaa
open Go.RowKit

def mxA (x : Int) : Int := if x < -x then -x else x
theorem mxA_bd {x : Int} (h1 : -2199023255552 ≤ x) (h2 : x ≤ 2199023255552) : 0 ≤ mxA x ∧ mxA x ≤ 2199023255552 := by unfold mxA; split <;> omega
/-- How great the first numbers are in sum, without signs. -/
def absS (l : List Int) : Nat → Int
  | 0 => 0
  | k + 1 => absS l k + mxA (l.getD k 0)
def tameL (l : List Int) : Prop := ∀ x ∈ l, -2199023255552 ≤ x ∧ x ≤ 2199023255552
theorem tame_at {l : List Int} (h : tameL l) (k : Nat) : -2199023255552 ≤ l.getD k 0 ∧ l.getD k 0 ≤ 2199023255552 := by
  rw [List.getD_eq_getElem?_getD]
  cases e : l[k]? with
  | none => simp
  | some x => exact h x (List.mem_of_getElem? e)
theorem absS_bd {l : List Int} (h : tameL l) : ∀ k : Nat, 0 ≤ absS l k ∧ absS l k ≤ 2199023255552 * k
  | 0 => by simp [absS]
  | k + 1 => by
    have ih := absS_bd h k
    obtain ⟨t1, t2⟩ := tame_at h k
    have := mxA_bd t1 t2
    simp only [absS]
    omega

set_option maxHeartbeats 1000000 in
theorem size_any (p q : List Int) (hp : tameL p) (hq : tameL q) (A B : Option Addr) (c d g : Nat) (w : World) (hr : Rd w A (zv p)) (hs : Rd w B (zv q)) (hl : p.length ≤ 100) (hm : q.length ≤ 100)
    (h0 : w.cell? ⟨g, 0, none⟩ = some (.slice A p.length c)) (h1 : w.cell? ⟨g, 1, none⟩ = some (.slice B q.length d)) :
    Calls Try.prog 21 #[.slice (some ⟨g, 0, none⟩) 2 2] w fun e w' => e = .returned (.int .i64 (absS p p.length + absS q q.length)) ∧ w' = w := by
  have Hr := Lib.hid hr; clear hr
  have Hs := Lib.hid hs; clear hs
  have Hp := Lib.hid hp; clear hp
  have Hq := Lib.hid hq; clear hq
  go_enter Try.func21, Try.ntmps21
  go_wp2_with fail
  go_loopw [3, 10] (fun sv i wr => ∃ k : Nat, k ≤ 2 ∧ i = .int .i64 k ∧ sv = .int .i64 (match k with | 0 => 0 | 1 => absS p p.length | _ => absS p p.length + absS q q.length) ∧ wr = w) (fun _ i _ => 3 - (intOf i).toNat)
  case atStart => exact ⟨0, by omega, rfl, rfl, rfl⟩
  case round =>
    obtain ⟨k, hk, rfl, rfl, rfl⟩ := hrel
    have hkc : k = 0 ∨ k = 1 ∨ k = 2 := by omega
    rcases hkc with rfl | rfl | rfl
    · simp only []
      go_wp2_with fail
      go_loopw [3, 16] (fun sv i wr2 => ∃ j : Nat, j ≤ p.length ∧ i = .int .i64 j ∧ sv = .int .i64 (absS p j) ∧ wr2 = wr) (fun _ i _ => p.length - (intOf i).toNat)
      case atStart => exact ⟨0, by omega, rfl, rfl, rfl⟩
      case round =>
        obtain ⟨j, hj, rfl, rfl, rfl⟩ := hrel
        by_cases hjj : j < p.length
        · obtain ⟨b, o, rfl, hc⟩ := Hr.out j (.int .i64 (p.getD j 0)) (by simp [zv, List.getD_eq_getElem?_getD, hjj])
          have Hs1 : Hid (absS p (j + 1) = absS p j + mxA (p.getD j 0)) := rfl
          obtain ⟨t1, t2⟩ := tame_at Hp.out j
          obtain ⟨s1, s2⟩ := absS_bd Hp.out j
          obtain ⟨m1, m2⟩ := mxA_bd t1 t2
          have Hm : Hid (mxA (p.getD j 0) = if p.getD j 0 < -p.getD j 0 then -p.getD j 0 else p.getD j 0) := rfl
          generalize absS p j = sj at *
          generalize p.getD j 0 = x at *
          obtain ⟨v, hv⟩ : ∃ v, (if x < -x then -x else x) = v := ⟨_, rfl⟩
          have hmv : mxA x = v := hv
          rw [hmv] at m1 m2 Hs1
          clear hmv Hm
          go_wp2_with fail
          go_roundw
          case rel => exact ⟨j + 1, by omega, by go_num, by rw [Hs1.out], by first | rfl | trivial⟩
          case measure => simp [intOf] <;> omega
        · obtain rfl : j = p.length := by omega
          obtain ⟨sp, hsp⟩ : ∃ z, absS p p.length = z := ⟨_, rfl⟩
          rw [hsp]
          have Hsp := Lib.hid hsp
          clear hsp
          go_wp2_with fail
          go_roundw
          case rel => exact ⟨1, by omega, rfl, by rw [← Hsp.out]; rfl, by first | rfl | trivial⟩
          case measure => simp [intOf] <;> omega
    · simp only []
      obtain ⟨sp, hsp⟩ : ∃ z, absS p p.length = z := ⟨_, rfl⟩
      have hspb := absS_bd Hp.out p.length
      rw [hsp] at hspb ⊢
      obtain ⟨hspb1, hspb2⟩ := hspb
      have Hsp := Lib.hid hsp
      clear hsp
      go_wp2_with fail
      go_loopw [3, 16] (fun sv i wr2 => ∃ j : Nat, j ≤ q.length ∧ i = .int .i64 j ∧ sv = .int .i64 (sp + absS q j) ∧ wr2 = wr) (fun _ i _ => q.length - (intOf i).toNat)
      case atStart => exact ⟨0, by omega, rfl, by simp [absS], rfl⟩
      case round =>
        obtain ⟨j, hj, rfl, rfl, rfl⟩ := hrel
        by_cases hjj : j < q.length
        · obtain ⟨b, o, rfl, hc⟩ := Hs.out j (.int .i64 (q.getD j 0)) (by simp [zv, List.getD_eq_getElem?_getD, hjj])
          have Hs1 : Hid (absS q (j + 1) = absS q j + mxA (q.getD j 0)) := rfl
          obtain ⟨t1, t2⟩ := tame_at Hq.out j
          obtain ⟨s1, s2⟩ := absS_bd Hq.out j
          obtain ⟨m1, m2⟩ := mxA_bd t1 t2
          have Hm : Hid (mxA (q.getD j 0) = if q.getD j 0 < -q.getD j 0 then -q.getD j 0 else q.getD j 0) := rfl
          generalize absS q j = sj at *
          generalize q.getD j 0 = x at *
          obtain ⟨v, hv⟩ : ∃ v, (if x < -x then -x else x) = v := ⟨_, rfl⟩
          have hmv : mxA x = v := hv
          rw [hmv] at m1 m2 Hs1
          clear hmv Hm
          go_wp2_with fail
          go_roundw
          case rel => exact ⟨j + 1, by omega, by go_num, by rw [Hs1.out, Int.add_assoc], by first | rfl | trivial⟩
          case measure => simp [intOf] <;> omega
        · obtain rfl : j = q.length := by omega
          obtain ⟨sq, hsq⟩ : ∃ z, sp + absS q q.length = z := ⟨_, rfl⟩
          rw [hsq]
          have Hsq := Lib.hid hsq
          clear hsq
          go_wp2_with fail
          go_roundw
          case rel => exact ⟨2, by omega, rfl, by rw [← Hsq.out, ← Hsp.out]; rfl, by first | rfl | trivial⟩
          case measure => simp [intOf] <;> omega
    · simp only []
      obtain ⟨sq, hsq⟩ : ∃ z, absS p p.length + absS q q.length = z := ⟨_, rfl⟩
      rw [hsq]
      have Hsq := Lib.hid hsq
      clear hsq
      go_wp2_with fail
      go_ret
      exact ⟨ret_int (by rw [Hsq.out]), rfl⟩
end Go.Proofs.Ytpjicibngdlhbaa
