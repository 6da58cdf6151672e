/-
  The sums that the walks tell are those of the plain laws.
-/
import Derived.Test.YtgohfbfdhdepnaaDoorSums2
import Derived.Test.YtgohfbfdhdepnaaDoorRefSums
namespace Go.Proofs.YtgohfbfdhdepnaaDoor.C2
open Crc (bits8 bitsOf bits8_le bitsOf_le)

theorem step8_eq : step8 = Crc.L 256 263 := rfl
theorem step16_eq : step16 = Crc.L 65536 98309 := rfl
theorem lst8_eq : lst8 = Crc.lst 256 7 := rfl
theorem lst16_eq : lst16 = Crc.lst 65536 32773 := rfl
theorem nxt8_eq (s x : Nat) : nxt8 s x = Crc.nxt 256 263 (2 ^ (8 - 8)) s x := by
  unfold nxt8 Crc.nxt one8
  rw [step8_eq, show (255 : Nat) = 2 ^ 8 - 1 from rfl, Nat.and_two_pow_sub_one_eq_mod]
  simp
theorem nxt16_eq (s x : Nat) : nxt16 s x = Crc.nxt 65536 98309 (2 ^ (16 - 8)) s x := by
  unfold nxt16 Crc.nxt one16
  rw [step16_eq, show (65535 : Nat) = 2 ^ 16 - 1 from rfl, Nat.and_two_pow_sub_one_eq_mod]
theorem crc8_eq (s : Nat) (l : List UInt8) : crc8 s l = Crc.crc 256 263 (2 ^ (8 - 8)) s l := by
  unfold crc8 Crc.crc
  congr 1
  funext s x
  exact nxt8_eq _ _
theorem crc16_eq (s : Nat) (l : List UInt8) : crc16 s l = Crc.crc 65536 98309 (2 ^ (16 - 8)) s l := by
  unfold crc16 Crc.crc
  congr 1
  funext s x
  exact nxt16_eq _ _
theorem tells8 (l : List UInt8) : crc8 0 l = lft8 (bitsOf l) := by rw [crc8_eq, Crc.p8.tells]; rfl
theorem tells16 (l : List UInt8) : crc16 0 l = lft16 (bitsOf l) := by rw [crc16_eq, Crc.p16.tells]; rfl

end Go.Proofs.YtgohfbfdhdepnaaDoor.C2
