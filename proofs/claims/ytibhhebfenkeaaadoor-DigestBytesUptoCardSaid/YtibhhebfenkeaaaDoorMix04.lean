/-
  digest.mix: its walk.
-/
import Derived.Test.YtibhhebfenkeaaaDoorRows
import Derived.Test.YtibhhebfenkeaaaDoorMd5L
namespace Go.Proofs.YtibhhebfenkeaaaDoor
open Go.RowKit

set_option maxHeartbeats 800000 in
theorem some_any (x y z : Nat) (hx : x < 4294967296) (hy : y < 4294967296) (hz : z < 4294967296) (w : World) :
    Calls Tryd.prog 26 #[.int .u32 x, .int .u32 y, .int .u32 z] w fun e w' => e = .returned (.int .u32 (smF x y z : Nat)) ∧ w' = w := by
  have e1 := u32_and x y hx hy
  have e2 := u32_and (nt x) z (nt_lt x hx) hz
  have e3 := u32_or (x &&& y) (nt x &&& z) (Nat.and_lt_two_pow (n := 32) _ hy) (Nat.and_lt_two_pow (n := 32) _ hz)
  have e4 := u32_not x hx
  have e5 := u32_sg
  go_enter Tryd.func26, Tryd.ntmps26
  go_wp2_with fail
  go_ret
  exact ⟨rfl, rfl⟩

theorem mixF_0 (i b c d : Nat) (h : i < 16) : mixF i b c d = smF b c d := if_pos h
theorem mixF_1 (i b c d : Nat) (h : ¬ i < 16) (h2 : i < 32) : mixF i b c d = smF d b c := by unfold mixF; rw [if_neg h, if_pos h2]
theorem mixF_2 (i b c d : Nat) (h : ¬ i < 32) (h2 : i < 48) : mixF i b c d = (b ^^^ c) ^^^ d := by unfold mixF; rw [if_neg (by omega), if_neg h, if_pos h2]
theorem mixF_3 (i b c d : Nat) (h : ¬ i < 48) : mixF i b c d = c ^^^ (b ||| nt d) := by unfold mixF; rw [if_neg (by omega), if_neg (by omega), if_neg h]
theorem mixG_0 (i : Nat) (h : i < 16) : mixG i = i := if_pos h
theorem mixG_1 (i : Nat) (h : ¬ i < 16) (h2 : i < 32) : mixG i = 5 * i + 1 := by unfold mixG; rw [if_neg h, if_pos h2]
theorem mixG_2 (i : Nat) (h : ¬ i < 32) (h2 : i < 48) : mixG i = 3 * i + 5 := by unfold mixG; rw [if_neg (by omega), if_neg h, if_pos h2]
theorem mixG_3 (i : Nat) (h : ¬ i < 48) : mixG i = 7 * i := by unfold mixG; rw [if_neg (by omega), if_neg (by omega), if_neg h]

set_option maxHeartbeats 800000 in
theorem mix_any (i b c d : Nat) (hi : i < 64) (hb : b < 4294967296) (hc : c < 4294967296) (hd : d < 4294967296) (w : World) :
    Calls Tryd.prog 25 #[.int .i64 i, .int .u32 b, .int .u32 c, .int .u32 d] w fun e w' => e = .returned (.tuple #[.int .u32 (mixF i b c d : Nat), .int .i64 (mixG i : Nat)]) ∧ w' = w := by
  by_cases h0 : i < 16
  · rw [mixF_0 i b c d h0, mixG_0 i h0]
    have q0 : ((i : Int) / 16 == 0) = true := by rw [beq_iff_eq]; omega
    go_enter Tryd.func25, Tryd.ntmps25
    go_wp2_with (go_at_call 26; refine (some_any b c d hb hc hd _).mono ?_; rintro e w1 ⟨rfl, rfl⟩)
    go_ret2
    exact ⟨rfl, rfl⟩
  by_cases h1 : i < 32
  · rw [mixF_1 i b c d h0 h1, mixG_1 i h0 h1]
    have q0 : ((i : Int) / 16 == 0) = false := by rw [beq_eq_false_iff_ne]; omega
    have q1 : ((i : Int) / 16 == 1) = true := by rw [beq_iff_eq]; omega
    go_enter Tryd.func25, Tryd.ntmps25
    go_wp2_with (go_at_call 26; refine (some_any d b c hd hb hc _).mono ?_; rintro e w1 ⟨rfl, rfl⟩)
    go_ret2
    exact ⟨rfl, rfl⟩
  by_cases h2 : i < 48
  · rw [mixF_2 i b c d h1 h2, mixG_2 i h1 h2]
    have q0 : ((i : Int) / 16 == 0) = false := by rw [beq_eq_false_iff_ne]; omega
    have q1 : ((i : Int) / 16 == 1) = false := by rw [beq_eq_false_iff_ne]; omega
    have q2 : ((i : Int) / 16 == 2) = true := by rw [beq_iff_eq]; omega
    have e1 := u32_xor b c hb hc
    have e2 := u32_xor (b ^^^ c) d (Nat.xor_lt_two_pow (n := 32) hb hc) hd
    go_enter Tryd.func25, Tryd.ntmps25
    go_wp2_with fail
    go_ret2
    exact ⟨rfl, rfl⟩
  · rw [mixF_3 i b c d h2, mixG_3 i h2]
    have q0 : ((i : Int) / 16 == 0) = false := by rw [beq_eq_false_iff_ne]; omega
    have q1 : ((i : Int) / 16 == 1) = false := by rw [beq_eq_false_iff_ne]; omega
    have q2 : ((i : Int) / 16 == 2) = false := by rw [beq_eq_false_iff_ne]; omega
    have e1 := u32_or b (nt d) hb (nt_lt d hd)
    have e2 := u32_xor c (b ||| nt d) hc (or_lt_pow (n := 32) hb (nt_lt d hd))
    have e4 := u32_not d hd
    have e5 := u32_sg
    go_enter Tryd.func25, Tryd.ntmps25
    go_wp2_with fail
    go_ret2
    exact ⟨rfl, rfl⟩
end Go.Proofs.YtibhhebfenkeaaaDoor
