/-
  jetsamref01.Bytes: bits, eight to a byte.
-/
import Derived.Test.YtgohfbfdhdepnaaDoorPut
namespace Go.Proofs.YtgohfbfdhdepnaaDoor.C3
open Go.RowKit

/-- Eight bits, the first one the highest. -/
def bitsum (f : Nat → Nat) : Nat → Nat
  | 0 => 0
  | c + 1 => 2 * bitsum f c + f c
def packN (l : List Nat) : List Nat := (List.range ((l.length + 7) / 8)).map fun j => bitsum (fun c => l.getD (8 * j + c) 0) 8
theorem bitsum_lt (f : Nat → Nat) (h : ∀ c, f c ≤ 1) : ∀ k, bitsum f k < 2 ^ k
  | 0 => by simp [bitsum]
  | k + 1 => by
    have := bitsum_lt f h k
    have := h k
    simp only [bitsum, Nat.pow_succ]; omega
set_option maxRecDepth 100000 in
set_option maxHeartbeats 800000 in
theorem pack_any (l : List Nat) (hl1 : ∀ x ∈ l, x ≤ 1) (A : Option Addr) (c : Nat) (w : World) (hr : Rd w A (nv l)) (hlen : l.length ≤ 1000000) :
    Calls Tryd.prog 41 #[.slice A l.length c] w fun e w' => ∃ v, e = .returned v ∧ Hid (w'.ownsRow w.heap.size 5 1 v ((l.length + 7) / 8) (nv8 (packN l))) ∧ Below w.heap.size w w' := by
  have Hr := Lib.hid hr; clear hr
  have H1 : Hid (∀ p, l.getD p 0 ≤ 1) := by
    intro p
    rw [List.getD_eq_getElem?_getD]
    cases h : l[p]? with
    | none => simp
    | some x => exact hl1 x (List.mem_of_getElem? h)
  clear hl1
  go_enter Tryd.func41, Tryd.ntmps41
  go_wp2_with fail
  go_loopw [3, 4] (fun v i wr => ∃ j : Nat, j ≤ (l.length + 7) / 8 ∧ i = .int .i64 (8 * j : Nat) ∧ Hid (wr.ownsRow w.heap.size 5 1 v j (nv8 ((packN l).take j))) ∧ Hid (Below w.heap.size w wr)) (fun _ i _ => l.length + 8 - (intOf i).toNat)
  case atStart => exact ⟨0, by omega, rfl, World.ownsRow_nil w w.heap.size _ 1, Below.refl _ _⟩
  case round =>
    obtain ⟨j, hj, rfl, Hown, Hb⟩ := hrel
    by_cases hjj : 8 * j < l.length
    · have hb9 := Hb.out
      obtain ⟨w1, hw1⟩ : ∃ z, wr = z := ⟨_, rfl⟩
      rw [hw1] at Hown Hb hb9
      rw [hw1]
      clear hw1 hb9
      have hcast : ((8 * j : Nat) : Int) < l.length := by omega
      go_wp2_with fail
      go_loopw [5, 6] (fun nv_ cv wr2 => ∃ k : Nat, k ≤ 8 ∧ cv = .int .i64 k ∧ nv_ = .int .i64 (bitsum (fun c => l.getD (8 * j + c) 0) k : Nat) ∧ Hid (w1 = wr2)) (fun _ cv _ => 8 - (intOf cv).toNat)
      case atStart => exact ⟨0, by omega, rfl, rfl, rfl⟩
      case round =>
        obtain ⟨k, hk, rfl, rfl, Hw⟩ := hrel
        have hww := Hw.out
        subst hww
        have hlt := bitsum_lt (fun c => l.getD (8 * j + c) 0) (fun c => H1.out _) k
        have hp : 2 ^ k ≤ 256 := by
          calc 2 ^ k ≤ 2 ^ 8 := Nat.pow_le_pow_right (by omega) hk
            _ = 256 := rfl
        have Hs : Hid (bitsum (fun c => l.getD (8 * j + c) 0) (k + 1) = 2 * bitsum (fun c => l.getD (8 * j + c) 0) k + l.getD (8 * j + k) 0) := rfl
        have h1 := H1.out (8 * j + k)
        by_cases hkk : k < 8
        · by_cases hin : 8 * j + k < l.length
          · obtain ⟨b, o, rfl, hc⟩ := (Hr.out.below Hb.out) (8 * j + k) (.int .i64 (l.getD (8 * j + k) 0 : Nat)) (by
              simp only [nv, List.getElem?_map, List.getElem?_eq_getElem hin, Option.map_some, List.getD_eq_getElem?_getD, Option.getD_some])
            generalize l.getD (8 * j + k) 0 = y at *
            generalize bitsum (fun c => l.getD (8 * j + c) 0) k = m at *
            go_wp2_with fail
            go_roundw
            case rel => exact ⟨k + 1, by omega, by go_num, by rw [Hs.out]; rfl, trivial⟩
            case measure => simp [intOf] <;> omega
          · have h0 : l.getD (8 * j + k) 0 = 0 := by rw [List.getD_eq_getElem?_getD, List.getElem?_eq_none (by omega)]; rfl
            rw [h0] at Hs
            clear h0 h1
            generalize bitsum (fun c => l.getD (8 * j + c) 0) k = m at *
            go_wp2_with fail
            go_roundw
            case rel => exact ⟨k + 1, by omega, by go_num, by rw [Hs.out]; rfl, trivial⟩
            case measure => simp [intOf] <;> omega
        · obtain rfl : k = 8 := by omega
          have Ht : Hid (nv8 ((packN l).take (j + 1)) = nv8 ((packN l).take j) ++ [.int .u8 (bitsum (fun c => l.getD (8 * j + c) 0) 8 : Nat)]) := by
            show _ = _
            have hjl : j < (packN l).length := by simp [packN]; omega
            rw [List.take_succ_eq_append_getElem hjl, nv8_append]
            simp [nv8, packN]
          clear Hs h1
          generalize bitsum (fun c => l.getD (8 * j + c) 0) 8 = m at *
          have hb9 := Hb.out
          have hs9 := hb9.size
          go_wp2_with (at_builtin; refine app1 (w0 := w) rfl _ _ 28 rfl Tryd.underlying28 info_u8 rfl (by decide) rfl Hown.out (Nat.le_refl _) hs9 hb9 rfl rfl (one_u8 _) (by omega) (by unfold maxLen; omega) ?_; intro v1 w6 own1 hb1 hs1; have Hown1 := Lib.hid own1; clear own1)
          go_roundw
          case rel =>
            refine ⟨j + 1, by omega, by go_num, ?_, hb1⟩
            rw [Ht.out]
            exact Hown1.out
          case measure => simp [intOf] <;> omega
    · obtain rfl : j = (l.length + 7) / 8 := by omega
      have hcast : ¬ ((8 * ((l.length + 7) / 8) : Nat) : Int) < l.length := by omega
      have Hl : Hid ((packN l).take ((l.length + 7) / 8) = packN l) := List.take_of_length_le (by simp [packN])
      obtain ⟨J, hJ⟩ : ∃ J, (l.length + 7) / 8 = J := ⟨_, rfl⟩
      rw [hJ] at Hown Hl hcast
      rw [hJ]
      have HJ := Lib.hid hJ
      clear hJ
      go_wp2_with fail
      go_ret
      refine ⟨_, rfl, ?_, Hb.out⟩
      rw [← Hl.out, HJ.out]
      exact Hown

end Go.Proofs.YtgohfbfdhdepnaaDoor.C3
