/-
  info.number: the number that bytes are (in 64 bits).
-/
import Derived.Test.YtikgpohoggpldaaCheck
namespace Go.Proofs.Ytikgpohoggpldaa
open Go.RowKit

def nv8 (l : List Nat) : List Value := l.map fun (x : Nat) => Value.int .u8 (x : Int)
theorem nv8_append (l m : List Nat) : nv8 (l ++ m) = nv8 l ++ nv8 m := by simp [nv8]
theorem nv8_length (l : List Nat) : (nv8 l).length = l.length := by simp [nv8]
theorem nv8_take (l : List Nat) (i : Nat) : nv8 (l.take i) = (nv8 l).take i := by simp [nv8]
theorem nv8_drop (l : List Nat) (i : Nat) : nv8 (l.drop i) = (nv8 l).drop i := by simp [nv8]
/-- The number that bytes are, the highest one first. -/
def natN (l : List Nat) : Nat := l.foldl (fun n x => n * 256 + x) 0
theorem natN_snoc (l : List Nat) (x : Nat) : natN (l ++ [x]) = natN l * 256 + x := by simp [natN]
theorem wrap_nat (a : Int) (N : Nat) (h : a % 18446744073709551616 = (N : Int) % 18446744073709551616) : wrap64 a = wrap64 N := by unfold wrap64; omega
theorem ofInt_any (a : Int) : (((BitVec.ofInt 64 a).toNat : Nat) : Int) = a % 18446744073709551616 := by
  rw [BitVec.toNat_ofInt]
  omega
theorem or_low (N x : Nat) (hx : x < 256) : bits .or .i64 (wrap64 ((N : Int) * 256)) (x : Int) = wrap64 ((N * 256 + x : Nat) : Int) := by
  show IntKind.i64.wrap ((BitVec.ofInt 64 (wrap64 ((N : Int) * 256)) ||| BitVec.ofInt 64 (x : Int)).toNat : Int) = _
  have h1 := ofInt_any (wrap64 ((N : Int) * 256))
  have h2 := ofInt_any (x : Int)
  rw [BitVec.toNat_or]
  generalize (BitVec.ofInt 64 (wrap64 ((N : Int) * 256))).toNat = p at *
  generalize (BitVec.ofInt 64 (x : Int)).toNat = q at *
  have hq : q = x := by omega
  subst hq
  have hp : p % 256 = 0 := by unfold wrap64 at h1; omega
  obtain ⟨r, hr⟩ : ∃ r, p = r * 2 ^ 8 := ⟨p / 256, by omega⟩
  have e : p ||| q = p + q := by rw [hr, ← Nat.shiftLeft_eq, Nat.shiftLeft_add_eq_or_of_lt (by omega)]
  rw [e, IntKind.wrap_i64]
  unfold wrap64 at h1 ⊢
  omega

set_option maxHeartbeats 800000 in
theorem number_any (l : List Nat) (hl8 : ∀ x ∈ l, x < 256) (A : Option Addr) (c : Nat) (w : World) (hr : Rd w A (nv8 l)) (hlen : l.length ≤ 100) :
    Calls Try.prog 25 #[.slice A l.length c] w fun e w' => e = .returned (.int .i64 (wrap64 (natN l : Nat))) ∧ w' = w := by
  have Hr := Lib.hid hr; clear hr
  have H8 := Lib.hid hl8; clear hl8
  go_enter Try.func25, Try.ntmps25
  go_wp2_with fail
  go_loop [3, 8] (fun v i => ∃ k : Nat, k ≤ l.length ∧ i = .int .i64 k ∧ v = .int .i64 (wrap64 (natN (l.take k) : Nat))) (fun _ i => l.length - (intOf i).toNat)
  case atStart => exact ⟨0, by omega, rfl, by simp [natN, wrap64]⟩
  case round =>
    obtain ⟨k, hk, rfl, rfl⟩ := hrel
    by_cases hkk : k < l.length
    · obtain ⟨b, o, rfl, hc⟩ := Hr.out k (.int .u8 (l[k] : Nat)) (by simp [nv8, hkk])
      have Hs : Hid (natN (l.take (k + 1)) = natN (l.take k) * 256 + l[k]) := by
        show _ = _
        rw [List.take_succ_eq_append_getElem hkk, natN_snoc]
      have hx := H8.out _ (List.getElem_mem hkk)
      generalize l[k] = x at *
      generalize natN (l.take k) = N at *
      have e1 : wrap64 (wrap64 (N : Int) * 256) = wrap64 ((N : Int) * 256) := by unfold wrap64; omega
      have e2 := or_low N x hx
      obtain ⟨V, hV⟩ : ∃ V, wrap64 (N : Int) = V := ⟨_, rfl⟩
      rw [hV] at e1 ⊢
      have HV := Lib.hid hV
      have E1 := Lib.hid e1
      have E2 := Lib.hid e2
      clear hV e1 e2
      go_wp2_with fail
      go_round
      case rel =>
        refine ⟨k + 1, by omega, by go_num, ?_⟩
        rw [Hs.out, E1.out, E2.out]
      case measure => simp [intOf]; omega
    · obtain rfl : k = l.length := by omega
      obtain ⟨V, hV⟩ : ∃ V, wrap64 (natN (l.take l.length) : Nat) = V := ⟨_, rfl⟩
      have HV := Lib.hid hV
      rw [hV]
      clear hV
      go_wp2_with fail
      go_ret
      refine ⟨ret_int ?_, rfl⟩
      rw [← HV.out, List.take_of_length_le (Nat.le_refl _)]
end Go.Proofs.Ytikgpohoggpldaa
