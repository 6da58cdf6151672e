/-
  The walks over jetsam/sums: Sum8, Sum16, the shifts.
-/
import Derived.Test.YtjfjkmbokiinbaaSums
namespace Go.Proofs.Ytjfjkmbokiinbaa
open Go.RowKit

set_option maxHeartbeats 400000 in
theorem eight_any (w : World) :
    Calls Try.prog 20 #[] w fun e w' => e = .returned (.agg #[.int .i64 8, .int .i64 7]) ∧ Below w.heap.size w w' := by
  go_enter Try.func20, Try.ntmps20
  go_wp2_with fail
  exact bodyPost_ret (v := .agg #[.int .i64 8, .int .i64 7]) (by simp [results, Try.results20, go_sem]) rfl ⟨rfl, by repeat (first | exact Below.refl _ _ | assumption | refine below_drewN ?_ _ | refine Below.drew ?_ | refine Below.alloc ?_ (Nat.le_refl _) _ | refine bal ?_ _ | refine bnext ?_ (by assumption))⟩

set_option maxHeartbeats 400000 in
theorem Sum8_any (ls : List (List UInt8)) (A : Option Addr) (c : Nat) (w : World) (hv : BSS w (.slice A ls.length c) ls) (hlen : ls.length < 4611686018427387904) (hlens : ∀ l ∈ ls, l.length < 4611686018427387904) :
    Calls Try.prog 10 #[.slice A ls.length c] w fun e w' =>
      e = .returned (.int .i64 (crc8 0 ls.flatten)) ∧ Below w.heap.size w w' := by
  have Hv := Lib.hid hv; clear hv
  have Hls := Lib.hid hlens; clear hlens
  go_enter Try.func10, Try.ntmps10
  go_wp2_with fail
  refine (eight_any _).mono ?_
  rintro e w1 ⟨rfl, hb1⟩
  go_wp2_with fail
  refine (eight_any _).mono ?_
  rintro e w2 ⟨rfl, hb2⟩
  go_wp2_with fail
  refine (of8_any ls A c _ ((Hv.out.below hb1).below hb2) hlen Hls.out).mono ?_
  rintro e w3 ⟨rfl, hb3⟩
  go_wp2_with fail
  go_ret
  exact ⟨rfl, bnext (bnext hb1 hb2) hb3⟩

set_option maxHeartbeats 400000 in
theorem shift8_ok (s n : Nat) (hs : s < 256) (hn : n ≤ 1048576) (w : World) :
    Calls Try.prog 26 #[.agg #[.int .i64 8, .int .i64 7], .int .i64 s, .int .i64 n] w fun e w' =>
      e = .returned (.tuple #[.int .i64 (it step8 n s : Nat), .int .i64 0]) ∧ Below w.heap.size w w' := by
  go_enter Try.func26, Try.ntmps26
  go_wp2_with fail
  go_loopw [1, 26] (fun v i wr => ∃ k : Nat, k ≤ n ∧ i = .int .i64 k ∧ v = .int .i64 (it step8 k s : Nat) ∧ Below w.heap.size w wr ∧ wr.cell? ⟨w.heap.size, 0, none⟩ = some (.int .i64 8) ∧ wr.cell? ⟨w.heap.size, 1, none⟩ = some (.int .i64 7) ∧ w.heap.size < wr.heap.size) (fun _ i _ => n - (intOf i).toNat)
  case atStart => exact ⟨0, by omega, rfl, rfl, by repeat (first | exact Below.refl _ _ | assumption | refine below_drewN ?_ _ | refine Below.drew ?_ | refine Below.alloc ?_ (Nat.le_refl _) _ | refine bal ?_ _ | refine bnext ?_ (by assumption)), by go_simp, by go_simp, by simp⟩
  case round =>
    obtain ⟨k, hk, rfl, rfl, hb, hc0, hc1, hsz⟩ := hrel
    have hlt := it_lt step8_lt k s hs
    by_cases hkk : k < n
    · go_wp2_with (go_at_call 32; refine (step8_any _ hlt _).mono ?_; rintro e w1 ⟨rfl, hb1⟩)
      go_roundw
      case rel =>
        exact ⟨k + 1, by omega, by go_num, rfl, bnext hb hb1, (hb1.cell (p := ⟨w.heap.size, 0, none⟩) hsz).trans hc0, (hb1.cell (p := ⟨w.heap.size, 1, none⟩) hsz).trans hc1, Nat.lt_of_lt_of_le hsz hb1.size⟩
      case measure => simp [intOf] <;> omega
    · obtain rfl : k = n := by omega
      go_wp2_with fail
      go_ret2
      exact ⟨rfl, hb⟩

theorem shift8_no (s n : Int) (h : s < 0 ∨ 256 ≤ s ∨ n < 0 ∨ 1048576 < n) (hs : s < 9223372036854775808) (w : World) :
    Calls Try.prog 26 #[.agg #[.int .i64 8, .int .i64 7], .int .i64 s, .int .i64 n] w fun e w' =>
      e = .returned (.tuple #[.int .i64 0, .int .i64 10]) ∧ Below w.heap.size w w' := by
  by_cases h1 : s < 0
  · go_enter Try.func26, Try.ntmps26
    go_wp2_with fail
    go_ret2
    exact ⟨rfl, by repeat (first | exact Below.refl _ _ | assumption | refine below_drewN ?_ _ | refine Below.drew ?_ | refine Below.alloc ?_ (Nat.le_refl _) _ | refine bal ?_ _ | refine bnext ?_ (by assumption))⟩
  by_cases h2 : 256 ≤ s
  · have h3 : (s / 256 != 0) = true := by rw [bne_iff_ne]; omega
    go_enter Try.func26, Try.ntmps26
    go_wp2_with fail
    go_ret2
    exact ⟨rfl, by repeat (first | exact Below.refl _ _ | assumption | refine below_drewN ?_ _ | refine Below.drew ?_ | refine Below.alloc ?_ (Nat.le_refl _) _ | refine bal ?_ _ | refine bnext ?_ (by assumption))⟩
  have h3 : (s / 256 != 0) = false := by rw [bne_eq_false_iff_eq]; omega
  by_cases h4 : n < 0
  · go_enter Try.func26, Try.ntmps26
    go_wp2_with fail
    go_ret2
    exact ⟨rfl, by repeat (first | exact Below.refl _ _ | assumption | refine below_drewN ?_ _ | refine Below.drew ?_ | refine Below.alloc ?_ (Nat.le_refl _) _ | refine bal ?_ _ | refine bnext ?_ (by assumption))⟩
  · have h5 : 1048576 < n := by omega
    go_enter Try.func26, Try.ntmps26
    go_wp2_with fail
    go_ret2
    exact ⟨rfl, by repeat (first | exact Below.refl _ _ | assumption | refine below_drewN ?_ _ | refine Below.drew ?_ | refine Below.alloc ?_ (Nat.le_refl _) _ | refine bal ?_ _ | refine bnext ?_ (by assumption))⟩

theorem Shift8_ok (s n : Nat) (hs : s < 256) (hn : n ≤ 1048576) (w : World) :
    Calls Try.prog 15 #[.int .i64 s, .int .i64 n] w fun e w' =>
      e = .returned (.tuple #[.int .i64 (it step8 n s : Nat), .int .i64 0]) ∧ Below w.heap.size w w' := by
  go_enter Try.func15, Try.ntmps15
  go_wp2_with fail
  refine (eight_any _).mono ?_
  rintro e w1 ⟨rfl, hb1⟩
  go_wp2_with fail
  refine (shift8_ok s n hs hn _).mono ?_
  rintro e w2 ⟨rfl, hb2⟩
  go_wp2_with fail
  go_ret2
  exact ⟨rfl, bnext hb1 hb2⟩
theorem Shift8_no (s n : Int) (h : s < 0 ∨ 256 ≤ s ∨ n < 0 ∨ 1048576 < n) (hs : s < 9223372036854775808) (w : World) :
    Calls Try.prog 15 #[.int .i64 s, .int .i64 n] w fun e w' =>
      e = .returned (.tuple #[.int .i64 0, .int .i64 10]) ∧ Below w.heap.size w w' := by
  go_enter Try.func15, Try.ntmps15
  go_wp2_with fail
  refine (eight_any _).mono ?_
  rintro e w1 ⟨rfl, hb1⟩
  go_wp2_with fail
  refine (shift8_no s n h hs _).mono ?_
  rintro e w2 ⟨rfl, hb2⟩
  go_wp2_with fail
  go_ret2
  exact ⟨rfl, bnext hb1 hb2⟩

set_option maxHeartbeats 400000 in
theorem sixteen_any (w : World) :
    Calls Try.prog 25 #[] w fun e w' => e = .returned (.agg #[.int .i64 16, .int .i64 32773]) ∧ Below w.heap.size w w' := by
  go_enter Try.func25, Try.ntmps25
  go_wp2_with fail
  exact bodyPost_ret (v := .agg #[.int .i64 16, .int .i64 32773]) (by simp [results, Try.results25, go_sem]) rfl ⟨rfl, by repeat (first | exact Below.refl _ _ | assumption | refine below_drewN ?_ _ | refine Below.drew ?_ | refine Below.alloc ?_ (Nat.le_refl _) _ | refine bal ?_ _ | refine bnext ?_ (by assumption))⟩

set_option maxHeartbeats 400000 in
theorem Sum16_any (ls : List (List UInt8)) (A : Option Addr) (c : Nat) (w : World) (hv : BSS w (.slice A ls.length c) ls) (hlen : ls.length < 4611686018427387904) (hlens : ∀ l ∈ ls, l.length < 4611686018427387904) :
    Calls Try.prog 12 #[.slice A ls.length c] w fun e w' =>
      e = .returned (.int .i64 (crc16 0 ls.flatten)) ∧ Below w.heap.size w w' := by
  have Hv := Lib.hid hv; clear hv
  have Hls := Lib.hid hlens; clear hlens
  go_enter Try.func12, Try.ntmps12
  go_wp2_with fail
  refine (sixteen_any _).mono ?_
  rintro e w1 ⟨rfl, hb1⟩
  go_wp2_with fail
  refine (sixteen_any _).mono ?_
  rintro e w2 ⟨rfl, hb2⟩
  go_wp2_with fail
  refine (of16_any ls A c _ ((Hv.out.below hb1).below hb2) hlen Hls.out).mono ?_
  rintro e w3 ⟨rfl, hb3⟩
  go_wp2_with fail
  go_ret
  exact ⟨rfl, bnext (bnext hb1 hb2) hb3⟩

set_option maxHeartbeats 400000 in
theorem shift16_ok (s n : Nat) (hs : s < 65536) (hn : n ≤ 1048576) (w : World) :
    Calls Try.prog 26 #[.agg #[.int .i64 16, .int .i64 32773], .int .i64 s, .int .i64 n] w fun e w' =>
      e = .returned (.tuple #[.int .i64 (it step16 n s : Nat), .int .i64 0]) ∧ Below w.heap.size w w' := by
  go_enter Try.func26, Try.ntmps26
  go_wp2_with fail
  go_loopw [1, 26] (fun v i wr => ∃ k : Nat, k ≤ n ∧ i = .int .i64 k ∧ v = .int .i64 (it step16 k s : Nat) ∧ Below w.heap.size w wr ∧ wr.cell? ⟨w.heap.size, 0, none⟩ = some (.int .i64 16) ∧ wr.cell? ⟨w.heap.size, 1, none⟩ = some (.int .i64 32773) ∧ w.heap.size < wr.heap.size) (fun _ i _ => n - (intOf i).toNat)
  case atStart => exact ⟨0, by omega, rfl, rfl, by repeat (first | exact Below.refl _ _ | assumption | refine below_drewN ?_ _ | refine Below.drew ?_ | refine Below.alloc ?_ (Nat.le_refl _) _ | refine bal ?_ _ | refine bnext ?_ (by assumption)), by go_simp, by go_simp, by simp⟩
  case round =>
    obtain ⟨k, hk, rfl, rfl, hb, hc0, hc1, hsz⟩ := hrel
    have hlt := it_lt step16_lt k s hs
    by_cases hkk : k < n
    · go_wp2_with (go_at_call 32; refine (step16_any _ hlt _).mono ?_; rintro e w1 ⟨rfl, hb1⟩)
      go_roundw
      case rel =>
        exact ⟨k + 1, by omega, by go_num, rfl, bnext hb hb1, (hb1.cell (p := ⟨w.heap.size, 0, none⟩) hsz).trans hc0, (hb1.cell (p := ⟨w.heap.size, 1, none⟩) hsz).trans hc1, Nat.lt_of_lt_of_le hsz hb1.size⟩
      case measure => simp [intOf] <;> omega
    · obtain rfl : k = n := by omega
      go_wp2_with fail
      go_ret2
      exact ⟨rfl, hb⟩

theorem shift16_no (s n : Int) (h : s < 0 ∨ 65536 ≤ s ∨ n < 0 ∨ 1048576 < n) (hs : s < 9223372036854775808) (w : World) :
    Calls Try.prog 26 #[.agg #[.int .i64 16, .int .i64 32773], .int .i64 s, .int .i64 n] w fun e w' =>
      e = .returned (.tuple #[.int .i64 0, .int .i64 10]) ∧ Below w.heap.size w w' := by
  by_cases h1 : s < 0
  · go_enter Try.func26, Try.ntmps26
    go_wp2_with fail
    go_ret2
    exact ⟨rfl, by repeat (first | exact Below.refl _ _ | assumption | refine below_drewN ?_ _ | refine Below.drew ?_ | refine Below.alloc ?_ (Nat.le_refl _) _ | refine bal ?_ _ | refine bnext ?_ (by assumption))⟩
  by_cases h2 : 65536 ≤ s
  · have h3 : (s / 65536 != 0) = true := by rw [bne_iff_ne]; omega
    go_enter Try.func26, Try.ntmps26
    go_wp2_with fail
    go_ret2
    exact ⟨rfl, by repeat (first | exact Below.refl _ _ | assumption | refine below_drewN ?_ _ | refine Below.drew ?_ | refine Below.alloc ?_ (Nat.le_refl _) _ | refine bal ?_ _ | refine bnext ?_ (by assumption))⟩
  have h3 : (s / 65536 != 0) = false := by rw [bne_eq_false_iff_eq]; omega
  by_cases h4 : n < 0
  · go_enter Try.func26, Try.ntmps26
    go_wp2_with fail
    go_ret2
    exact ⟨rfl, by repeat (first | exact Below.refl _ _ | assumption | refine below_drewN ?_ _ | refine Below.drew ?_ | refine Below.alloc ?_ (Nat.le_refl _) _ | refine bal ?_ _ | refine bnext ?_ (by assumption))⟩
  · have h5 : 1048576 < n := by omega
    go_enter Try.func26, Try.ntmps26
    go_wp2_with fail
    go_ret2
    exact ⟨rfl, by repeat (first | exact Below.refl _ _ | assumption | refine below_drewN ?_ _ | refine Below.drew ?_ | refine Below.alloc ?_ (Nat.le_refl _) _ | refine bal ?_ _ | refine bnext ?_ (by assumption))⟩

theorem Shift16_ok (s n : Nat) (hs : s < 65536) (hn : n ≤ 1048576) (w : World) :
    Calls Try.prog 14 #[.int .i64 s, .int .i64 n] w fun e w' =>
      e = .returned (.tuple #[.int .i64 (it step16 n s : Nat), .int .i64 0]) ∧ Below w.heap.size w w' := by
  go_enter Try.func14, Try.ntmps14
  go_wp2_with fail
  refine (sixteen_any _).mono ?_
  rintro e w1 ⟨rfl, hb1⟩
  go_wp2_with fail
  refine (shift16_ok s n hs hn _).mono ?_
  rintro e w2 ⟨rfl, hb2⟩
  go_wp2_with fail
  go_ret2
  exact ⟨rfl, bnext hb1 hb2⟩
theorem Shift16_no (s n : Int) (h : s < 0 ∨ 65536 ≤ s ∨ n < 0 ∨ 1048576 < n) (hs : s < 9223372036854775808) (w : World) :
    Calls Try.prog 14 #[.int .i64 s, .int .i64 n] w fun e w' =>
      e = .returned (.tuple #[.int .i64 0, .int .i64 10]) ∧ Below w.heap.size w w' := by
  go_enter Try.func14, Try.ntmps14
  go_wp2_with fail
  refine (sixteen_any _).mono ?_
  rintro e w1 ⟨rfl, hb1⟩
  go_wp2_with fail
  refine (shift16_no s n h hs _).mono ?_
  rintro e w2 ⟨rfl, hb2⟩
  go_wp2_with fail
  go_ret2
  exact ⟨rfl, bnext hb1 hb2⟩

end Go.Proofs.Ytjfjkmbokiinbaa
