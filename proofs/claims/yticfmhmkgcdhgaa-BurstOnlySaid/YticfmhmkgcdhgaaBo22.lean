/-
  burst.Apply: bytes with bursts.
-/
import Derived.Test.YticfmhmkgcdhgaaBo19
import Derived.Test.YticfmhmkgcdhgaaBo21
set_option linter.unusedSimpArgs false
set_option linter.unusedVariables false
namespace Go.Proofs.Yticfmhmkgcdhgaa
open Go.RowKit
open Crc (burstB dmg flip bl)

def tx (x : T3) : Value := .agg #[.int .i64 x.a, .int .i64 x.n, .int .i64 x.v]
def badX (m : Nat) (x : T3) : Bool := ckE x.a x.n x.v m != 0
def okT (x : T3) : Prop := x.v ≤ 9223372036854775807
theorem ckE_ok (a n p : Int) (m : Nat) (h : ckE a n p m = 0) (hp : p ≤ 9223372036854775807) : ∃ a' n' p' : Nat, a = a' ∧ n = n' ∧ p = p' ∧ 1 ≤ n' ∧ n' ≤ 16 ∧ p' < 65536 ∧ bl p' = n' ∧ p' % 2 = 1 ∧ a' + n' ≤ 8 * m := by
  unfold ckE at h
  split at h
  · simp at h
  · rename_i hh
    simp only [not_or] at hh
    obtain ⟨h1, h2, h3, h4, h5, h6, h7⟩ := hh
    have hb : bl p.toNat = n.toNat := by omega
    have hp0 : p.toNat ≠ 0 := by intro e; rw [e] at hb; simp [bl] at hb; omega
    have hs := (Crc.bl_spec p.toNat hp0).2
    rw [hb] at hs
    have := Nat.pow_le_pow_right (n := 2) (by omega) (show n.toNat ≤ 16 by omega)
    exact ⟨a.toNat, n.toNat, p.toNat, by omega, by omega, by omega, by omega, by omega, by omega, by omega, by omega, by omega⟩
/-- Bytes with bursts. -/
def apL (l : List UInt8) (xs : List T3) : List UInt8 := xs.foldl (fun b x => burstB b x.a.toNat x.n.toNat x.v.toNat) l
theorem apL_length (xs : List T3) : ∀ l, (apL l xs).length = l.length := by
  induction xs with
  | nil => intro l; rfl
  | cons x xs ih => intro l; show (apL _ xs).length = _; rw [ih, Crc.burstB_length]

set_option maxRecDepth 100000 in
set_option maxHeartbeats 800000 in
theorem Apply1_any (B m c : Nat) (A : Option Addr) (x : T3) (hm : m ≤ 100000) (hx : okT x) (w : World) (hB : w.cell? ⟨B, 0, none⟩ = some (.slice A m c)) :
    Calls Try.prog 30 #[tx x, .pointer (some ⟨B, 0, none⟩)] w fun e w' => e = .returned (.bool (badX m x)) ∧ Below w.heap.size w w' := by
  obtain ⟨a, n, p⟩ := x
  have HC := Lib.hid (fun W => Check_any a n p m (by omega) hx W)
  have hbd : badX m ⟨a, n, p⟩ = (ckE a n p m != 0) := rfl
  rw [hbd]
  clear hbd hx
  generalize ckE a n p m = E at *
  simp only [tx]
  have hBl := cell_lt hB
  have hBn : B ≠ w.heap.size := by omega
  go_enter Try.func30, Try.ntmps30
  go_wp2_with fail
  refine (HC.out _).mono ?_
  rintro e w1 ⟨rfl, hb1⟩
  have hb2 : Below w.heap.size w w1 := bnext (by repeat (first | exact Below.refl _ _ | assumption | refine below_drewN ?_ _ | refine Below.drew ?_ | refine Below.alloc ?_ (Nat.le_refl _) _ | refine bal ?_ _ | refine bnext ?_ (by assumption))) hb1
  go_wp2_with fail
  go_ret
  exact ⟨rfl, hb2⟩

set_option maxRecDepth 100000 in
set_option maxHeartbeats 800000 in
theorem IndexFunc_any (xs : List T3) (A : Option Addr) (c B m c2 : Nat) (A2 : Option Addr) (hm : m ≤ 100000) (hx : ∀ x ∈ xs, okT x) (hlen : (xs.length : Int) ≤ 4611686018427387904) (w : World) (hr : RdT w A xs) (hB : w.cell? ⟨B, 0, none⟩ = some (.slice A2 m c2)) :
    Calls Try.prog 39 #[.slice A xs.length c, .func (.func 30) #[] #[.pointer (some ⟨B, 0, none⟩)]] w fun e w' =>
      ∃ r : Int, e = .returned (.int .i64 r) ∧ Hid (decide (0 ≤ r) = xs.any (badX m)) ∧ Below w.heap.size w w' := by
  have HF := Lib.hid (fun (x : T3) (h : x ∈ xs) W (hW : Below w.heap.size w W) => Apply1_any B m c2 A2 x hm (hx x h) W ((hW.cell (p := ⟨B, 0, none⟩) (cell_lt hB)).trans hB))
  have Hr := Lib.hid hr
  clear hr hB hx
  go_enter Try.func39, Try.ntmps39
  go_wp2_with fail
  go_loopw [5, 8] (fun u i wr => ∃ k : Nat, k ≤ xs.length ∧ i = .int .i64 k ∧ Hid ((xs.take k).any (badX m) = false) ∧ Below w.heap.size w wr) (fun _ i _ => xs.length - (intOf i).toNat)
  case atStart => exact ⟨0, by omega, rfl, rfl, Below.refl _ _⟩
  case round =>
    obtain ⟨k, hk, rfl, Hno, hb⟩ := hrel
    by_cases hkk : k < xs.length
    · obtain ⟨b, o, rfl, hc0, hc1, hc2⟩ := (Hr.out.below hb) k xs[k] (List.getElem?_eq_getElem hkk)
      have HFk := Lib.hid (HF.out xs[k] (List.getElem_mem hkk))
      have Hs : Hid ((xs.take (k + 1)).any (badX m) = badX m xs[k]) := by
        show _ = _
        rw [List.take_succ_eq_append_getElem hkk, List.any_append, Hno.out]; simp
      have Hin : Hid (badX m xs[k] = true → xs.any (badX m) = true) := fun h => List.any_eq_true.2 ⟨_, List.getElem_mem hkk, h⟩
      generalize xs[k] = x at *
      obtain ⟨a, n, p⟩ := x
      simp only [tx] at HFk
      generalize hbb : badX m ⟨a, n, p⟩ = bb at *
      clear hbb
      go_wp2_with fail
      refine (HFk.out _ hb).mono ?_
      rintro e w1 ⟨rfl, hb1⟩
      have hb2 := bnext hb hb1
      cases bb
      · go_wp2_with fail
        go_roundw
        case rel => exact ⟨k + 1, by omega, by go_num, Hs.out, hb2⟩
        case measure => simp [intOf] <;> omega
      · go_wp2_with fail
        go_ret
        refine ⟨_, rfl, ?_, hb2⟩
        show _ = _
        rw [show xs.any (badX m) = true from by first | exact Hin.out rfl | exact Hin.out trivial]
        simp
    · obtain rfl : k = xs.length := by omega
      go_wp2_with fail
      go_ret
      refine ⟨_, rfl, ?_, hb⟩
      have h := Hno.out
      rw [List.take_of_length_le (Nat.le_refl _)] at h
      show _ = _
      rw [h]; rfl

set_option maxHeartbeats 800000 in
theorem ContainsFunc_any (xs : List T3) (A : Option Addr) (c B m c2 : Nat) (A2 : Option Addr) (hm : m ≤ 100000) (hx : ∀ x ∈ xs, okT x) (hlen : (xs.length : Int) ≤ 4611686018427387904) (w : World) (hr : RdT w A xs) (hB : w.cell? ⟨B, 0, none⟩ = some (.slice A2 m c2)) :
    Calls Try.prog 29 #[.slice A xs.length c, .func (.func 30) #[] #[.pointer (some ⟨B, 0, none⟩)]] w fun e w' =>
      e = .returned (.bool (xs.any (badX m))) ∧ Below w.heap.size w w' := by
  have HI := Lib.hid (IndexFunc_any xs A c B m c2 A2 hm hx hlen w hr hB)
  clear hr hB hx
  go_enter Try.func29, Try.ntmps29
  go_wp2_with fail
  refine HI.out.mono ?_
  rintro e w1 ⟨r, rfl, Hd, hb1⟩
  go_wp2_with fail
  go_ret
  exact ⟨ret_bool Hd.out, hb1⟩
end Go.Proofs.Yticfmhmkgcdhgaa
