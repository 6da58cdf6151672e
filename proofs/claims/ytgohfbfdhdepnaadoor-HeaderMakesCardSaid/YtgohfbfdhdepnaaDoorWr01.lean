/-
  Writer: NewWriter, Len, Bytes, Put, Align, Unary.
-/
import Derived.Test.YtgohfbfdhdepnaaDoorPutB01
namespace Go.Proofs.YtgohfbfdhdepnaaDoor
open Go.RowKit

set_option maxHeartbeats 400000 in
theorem NewWriter_any (w : World) :
    Calls Tryd.prog 24 #[] w fun e w' => ∃ R, e = .returned (.pointer (some ⟨R, 0, none⟩)) ∧ Wtr w' R [] (.slice none 0 0) ∧ w.heap.size ≤ R ∧ R < w'.heap.size ∧ Below w.heap.size w w' := by
  go_enter Tryd.func24, Tryd.ntmps24
  go_wp2_with fail
  go_ret
  exact ⟨w.heap.size, rfl, ⟨heap_alloc_last w _, World.ownsRow_nil _ _ _ 1, (fun b hb => by cases hb), by simp⟩, Nat.le_refl _, by simp, by repeat (first | exact Below.refl _ _ | assumption | refine below_drewN ?_ _ | refine Below.drew ?_ | refine Below.alloc ?_ (Nat.le_refl _) _ | refine bal ?_ _ | refine bnext ?_ (by assumption))⟩
/-- The bytes of bits. -/
def pkL (bs : List Nat) : List UInt8 := (List.range ((bs.length + 7) / 8)).map fun i => UInt8.ofNat (byteAt bs i)
theorem pkL_length (bs : List Nat) : (pkL bs).length = (bs.length + 7) / 8 := by simp [pkL]
theorem bv_pkL (bs : List Nat) (h : ∀ b ∈ bs, b < 2) : bv (pkL bs) = pkN bs ((bs.length + 7) / 8) := by
  unfold bv pkL pkN
  rw [List.map_map]
  refine List.map_congr_left fun i _ => ?_
  show Value.int .u8 _ = Value.int .u8 _
  have := byteAt_lt h i
  rw [UInt8.toNat_ofNat', Nat.mod_eq_of_lt (by omega)]
theorem Bytes_any (R : Nat) (bs : List Nat) (u : Value) (w : World) (hW : Wtr w R bs u) (hl : bs.length ≤ 4000000) :
    Calls Tryd.prog 30 #[.pointer (some ⟨R, 0, none⟩)] w fun e w' => ∃ A c, e = .returned (.slice A (pkL bs).length c) ∧ (pkL bs).length ≤ c ∧ c ≤ 9223372036854775807 ∧ Rd w' A (bv (pkL bs)) ∧ (A = none → (pkL bs).length = 0 ∧ c = 0) ∧ Below w.heap.size w w' := by
  obtain ⟨A, c, rfl, -, -, hr, hn⟩ := own_rd4 hW.own
  rw [← bv_pkL bs hW.bit] at hr
  rw [← pkL_length] at hn
  have HC := Lib.hid (clone_any (pkL bs) A c w hr (by rw [pkL_length]; omega) hn)
  have h1 := hW.c1
  rw [← pkL_length] at h1
  clear hW hr hn
  go_enter Tryd.func30, Tryd.ntmps30
  go_wp2_with fail
  refine HC.out.mono ?_
  rintro e w1 ⟨v, rfl, Hown, hb⟩
  obtain ⟨A', c', rfl, hcc, hc63, hrd, hn⟩ := own_rd4 Hown.out
  go_wp2_with fail
  go_ret
  exact ⟨A', c', rfl, hcc, hc63, hrd, hn, hb⟩

def ptE (n v : Int) : Int := if n < 0 ∨ 48 < n then 1 else if v < 0 ∨ 2 ^ n.toNat ≤ v then 10 else 0
def ptB (bs : List Nat) (n v : Int) : List Nat := if ptE n v = 0 then bs ++ vb v.toNat n.toNat else bs
set_option maxHeartbeats 800000 in
theorem Put_any (R : Nat) (bs : List Nat) (u : Value) (n v : Int) (w : World) (hW : Wtr w R bs u) (hlen : bs.length + 48 ≤ 1000000000000) :
    Calls Tryd.prog 25 #[.pointer (some ⟨R, 0, none⟩), .int .i64 n, .int .i64 v] w fun e w' => e = .returned (.int .i64 (ptE n v)) ∧ ∃ u', Wtr w' R (ptB bs n v) u' ∧ FrW R u u' w w' := by
  have HW := Lib.hid hW
  clear hW
  have stay : Hid (ptE n v ≠ 0 → ∃ u', Wtr w R (ptB bs n v) u' ∧ FrW R u u' w w) := fun h => ⟨u, by rw [ptB, if_neg h]; exact HW.out, FrW.refl _ _ _⟩
  have HE : Hid (ptE n v = if n < 0 ∨ 48 < n then 1 else if v < 0 ∨ 2 ^ n.toNat ≤ v then 10 else 0) := rfl
  have HB : Hid (ptE n v = 0 → ptB bs n v = bs ++ vb v.toNat n.toNat) := fun h => if_pos h
  generalize ptE n v = E at *
  generalize ptB bs n v = B at *
  by_cases h1 : n < 0
  · have hE : E = 1 := by rw [HE.out, if_pos (.inl h1)]
    subst hE
    have HS := Lib.hid (stay.out (by decide))
    clear stay HE HB
    go_enter Tryd.func25, Tryd.ntmps25
    go_wp2_with fail
    try rw [Exit.noGoto_ret]
    go_ret
    exact ⟨rfl, HS.out⟩
  by_cases h2 : n > 48
  · have hE : E = 1 := by rw [HE.out, if_pos (.inr h2)]
    subst hE
    have HS := Lib.hid (stay.out (by decide))
    clear stay HE HB
    go_enter Tryd.func25, Tryd.ntmps25
    go_wp2_with fail
    try rw [Exit.noGoto_ret]
    go_ret
    exact ⟨rfl, HS.out⟩
  obtain ⟨m, rfl⟩ : ∃ m : Nat, n = m := ⟨n.toNat, by omega⟩
  rw [Int.toNat_natCast] at HE HB
  have hm : m ≤ 48 := by omega
  have hpw := pow48 m hm
  have hwp : wrap64 ((2 : Int) ^ m) = 2 ^ m := by unfold wrap64; omega
  have hwp2 : IntKind.i64.wrap ((2 : Int) ^ m) = 2 ^ m := by rw [IntKind.wrap_i64]; omega
  have HE2 : Hid (E = if v < 0 ∨ 2 ^ m ≤ v then 10 else 0) := by show _ = _; rw [HE.out, if_neg (by omega)]
  have hmin : min m 64 = m := Nat.min_eq_left (by omega)
  clear HE
  by_cases h3 : v < 0
  · have hE : E = 10 := by rw [HE2.out, if_pos (.inl h3)]
    subst hE
    have HS := Lib.hid (stay.out (by decide))
    clear stay HE2 HB
    go_enter Tryd.func25, Tryd.ntmps25
    go_wp2_with fail
    try rw [Exit.noGoto_ret]
    go_ret
    exact ⟨rfl, HS.out⟩
  by_cases h4 : v ≥ 2 ^ m
  · have hE : E = 10 := by rw [HE2.out, if_pos (.inr h4)]
    subst hE
    have HS := Lib.hid (stay.out (by decide))
    clear stay HE2 HB
    go_enter Tryd.func25, Tryd.ntmps25
    go_wp2_with fail
    try rw [Exit.noGoto_ret]
    go_ret
    exact ⟨rfl, HS.out⟩
  have hE : E = 0 := by rw [HE2.out, if_neg (by omega)]
  subst hE
  obtain ⟨x, rfl⟩ : ∃ x : Nat, v = x := ⟨v.toNat, by omega⟩
  have hx : x < 2 ^ m := by
    have e : ((2 : Int) ^ m) = ((2 ^ m : Nat) : Int) := by simp
    rw [e] at h4; omega
  have HBe := Lib.hid (HB.out rfl)
  have HP := Lib.hid (put_any R bs u x m hx hm w HW.out (by omega))
  clear stay HE2 HB hx
  go_enter Tryd.func25, Tryd.ntmps25
  go_wp2_with fail
  refine HP.out.mono ?_
  rintro e w1 ⟨⟨q, rfl⟩, u', hW1, hF1⟩
  go_wp2_with fail
  try rw [Exit.noGoto_ret]
  go_ret
  refine ⟨rfl, u', ?_, hF1⟩
  rw [HBe.out]
  exact hW1
end Go.Proofs.YtgohfbfdhdepnaaDoor
