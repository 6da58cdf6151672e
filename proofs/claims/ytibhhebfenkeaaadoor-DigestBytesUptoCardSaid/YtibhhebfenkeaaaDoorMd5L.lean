/-
  The digest, plain.
-/
import Derived.Test.YtibhhebfenkeaaaDoorL2
import Derived.Test.YtibhhebfenkeaaaDoorFr
namespace Go.Proofs.YtibhhebfenkeaaaDoor
open Go.RowKit

theorem or_lt_pow {x y n : Nat} (hx : x < 2 ^ n) (hy : y < 2 ^ n) : x ||| y < 2 ^ n := Nat.or_lt_two_pow hx hy
def sinesL : List Nat := [3614090360, 3905402710, 606105819, 3250441966, 4118548399, 1200080426, 2821735955, 4249261313, 1770035416, 2336552879, 4294925233, 2304563134, 1804603682, 4254626195, 2792965006, 1236535329, 4129170786, 3225465664, 643717713, 3921069994, 3593408605, 38016083, 3634488961, 3889429448, 568446438, 3275163606, 4107603335, 1163531501, 2850285829, 4243563512, 1735328473, 2368359562, 4294588738, 2272392833, 1839030562, 4259657740, 2763975236, 1272893353, 4139469664, 3200236656, 681279174, 3936430074, 3572445317, 76029189, 3654602809, 3873151461, 530742520, 3299628645, 4096336452, 1126891415, 2878612391, 4237533241, 1700485571, 2399980690, 4293915773, 2240044497, 1873313359, 4264355552, 2734768916, 1309151649, 4149444226, 3174756917, 718787259, 3951481745]
def turnsL : List Nat := [7, 12, 17, 22, 5, 9, 14, 20, 4, 11, 16, 23, 6, 10, 15, 21]
def sn (i : Nat) : Nat := sinesL.getD i 0
def tn (i : Nat) : Nat := turnsL.getD (i / 16 * 4 + i % 4) 0
def nt (x : Nat) : Nat := 4294967295 ^^^ x
def smF (x y z : Nat) : Nat := (x &&& y) ||| (nt x &&& z)
def mixF (i b c d : Nat) : Nat := if i < 16 then smF b c d else if i < 32 then smF d b c else if i < 48 then (b ^^^ c) ^^^ d else c ^^^ (b ||| nt d)
def mixG (i : Nat) : Nat := if i < 16 then i else if i < 32 then 5 * i + 1 else if i < 48 then 3 * i + 5 else 7 * i
def rl (f t : Nat) : Nat := (f * 2 ^ t % 4294967296) ||| (f / 2 ^ (32 - t))
structure S4 where
  a : Nat
  b : Nat
  c : Nat
  d : Nat
def S4.ok (s : S4) : Prop := s.a < 4294967296 ∧ s.b < 4294967296 ∧ s.c < 4294967296 ∧ s.d < 4294967296
def fF (m : Nat → Nat) (s : S4) (i : Nat) : Nat := (mixF i s.b s.c s.d + ((s.a + sn i) % 4294967296 + m (mixG i % 16)) % 4294967296) % 4294967296
def rnd (m : Nat → Nat) (s : S4) (i : Nat) : S4 := ⟨s.d, (s.b + rl (fF m s i) (tn i)) % 4294967296, s.b, s.c⟩
def rnds (m : Nat → Nat) (s : S4) : Nat → S4
  | 0 => s
  | i + 1 => rnd m (rnds m s i) i
def addS (s x : S4) : S4 := ⟨(s.a + x.a) % 4294967296, (s.b + x.b) % 4294967296, (s.c + x.c) % 4294967296, (s.d + x.d) % 4294967296⟩
def tk (m : Nat → Nat) (s : S4) : S4 := addS s (rnds m s 64)
/-- The byte there. -/
def by1 (l : List UInt8) (i : Nat) : Nat := (l.getD i 0).toNat
/-- A word, the last j bytes of it. -/
def pw (l : List UInt8) (at_ : Nat) : Nat → Nat
  | 0 => 0
  | j + 1 => pw l at_ j * 256 + by1 l (at_ + (3 - j))
def wdF (l : List UInt8) (at_ : Nat) (i : Nat) : Nat := pw l (at_ + 4 * i) 4
def s0 : S4 := ⟨1732584193, 4023233417, 2562383102, 271733878⟩
def HH (l : List UInt8) : Nat → S4
  | 0 => s0
  | k + 1 => tk (wdF l (64 * k)) (HH l k)
theorem by1_lt (l : List UInt8) (i : Nat) : by1 l i < 256 := (l.getD i 0).toNat_lt
theorem pw_lt (l : List UInt8) (a : Nat) : ∀ j, pw l a j < 256 ^ j
  | 0 => by simp [pw]
  | j + 1 => by
    have := pw_lt l a j
    have := by1_lt l (a + (3 - j))
    rw [pw, Nat.pow_succ]; omega
theorem wdF_lt (l : List UInt8) (a i : Nat) : wdF l a i < 4294967296 := pw_lt l _ 4
theorem nt_lt (x : Nat) (h : x < 4294967296) : nt x < 4294967296 := Nat.xor_lt_two_pow (n := 32) (by omega) h
theorem smF_lt (x y z : Nat) (hy : y < 4294967296) (hz : z < 4294967296) : smF x y z < 4294967296 := or_lt_pow (n := 32) (Nat.and_lt_two_pow _ hy) (Nat.and_lt_two_pow _ hz)
theorem mixF_lt (i b c d : Nat) (hb : b < 4294967296) (hc : c < 4294967296) (hd : d < 4294967296) : mixF i b c d < 4294967296 := by
  unfold mixF
  split
  · exact smF_lt _ _ _ hc hd
  · split
    · exact smF_lt _ _ _ hb hc
    · split
      · exact Nat.xor_lt_two_pow (n := 32) (Nat.xor_lt_two_pow hb hc) hd
      · exact Nat.xor_lt_two_pow (n := 32) hc (or_lt_pow hb (nt_lt d hd))
theorem rl_lt (f t : Nat) (hf : f < 4294967296) : rl f t < 4294967296 := or_lt_pow (n := 32) (Nat.mod_lt _ (by omega)) (Nat.lt_of_le_of_lt (Nat.div_le_self _ _) hf)
theorem fF_lt (m : Nat → Nat) (s : S4) (i : Nat) : fF m s i < 4294967296 := Nat.mod_lt _ (by omega)
theorem rnd_ok (m : Nat → Nat) (s : S4) (i : Nat) (h : s.ok) : (rnd m s i).ok := ⟨h.2.2.2, Nat.mod_lt _ (by omega), h.2.1, h.2.2.1⟩
theorem rnds_ok (m : Nat → Nat) (s : S4) (h : s.ok) : ∀ i, (rnds m s i).ok
  | 0 => h
  | i + 1 => rnd_ok m _ i (rnds_ok m s h i)
theorem addS_ok (s x : S4) : (addS s x).ok := ⟨Nat.mod_lt _ (by omega), Nat.mod_lt _ (by omega), Nat.mod_lt _ (by omega), Nat.mod_lt _ (by omega)⟩
theorem s0_ok : s0.ok := ⟨by decide, by decide, by decide, by decide⟩
theorem HH_ok (l : List UInt8) : ∀ k, (HH l k).ok
  | 0 => s0_ok
  | k + 1 => addS_ok _ _
theorem mixG_lt (i : Nat) (h : i < 64) : mixG i < 442 := by unfold mixG; split <;> (try split) <;> (try split) <;> omega
theorem sinesL_length : sinesL.length = 64 := by decide
theorem sn_lt : ∀ i, i < 64 → sn i < 4294967296 := by decide +kernel
theorem tn_le : ∀ i, i < 64 → 4 ≤ tn i ∧ tn i ≤ 23 := by decide +kernel
theorem by1_app (l m : List UInt8) (i : Nat) (h : i < l.length) : by1 (l ++ m) i = by1 l i := by
  unfold by1
  simp only [List.getD_eq_getElem?_getD, List.getElem?_append_left h]
theorem pw_congr (l m : List UInt8) (a b : Nat) (h : ∀ i, i < 4 → by1 l (a + i) = by1 m (b + i)) : ∀ j, j ≤ 4 → pw l a j = pw m b j
  | 0, _ => rfl
  | j + 1, hj => by rw [pw, pw, pw_congr l m a b h j (by omega), h (3 - j) (by omega)]
theorem wdF_app (l m : List UInt8) (a i : Nat) (h : a + 4 * i + 4 ≤ l.length) : wdF (l ++ m) a i = wdF l a i :=
  pw_congr _ _ _ _ (fun j hj => by1_app l m _ (by omega)) 4 (Nat.le_refl _)
theorem rnds_congr (m m' : Nat → Nat) (h : ∀ i, i < 16 → m i = m' i) (s : S4) : ∀ i, rnds m s i = rnds m' s i
  | 0 => rfl
  | i + 1 => by
    rw [rnds, rnds, rnds_congr m m' h s i, rnd, rnd, fF, fF, h _ (Nat.mod_lt _ (by omega))]
theorem tk_congr (m m' : Nat → Nat) (h : ∀ i, i < 16 → m i = m' i) (s : S4) : tk m s = tk m' s := by rw [tk, tk, rnds_congr m m' h]
theorem HH_app (l m : List UInt8) : ∀ k, 64 * k ≤ l.length → HH (l ++ m) k = HH l k
  | 0, _ => rfl
  | k + 1, h => by
    rw [HH, HH, HH_app l m k (by omega)]
    exact tk_congr _ _ (fun i hi => wdF_app l m _ i (by omega)) _
/-- Four numbers' byte. -/
def byteS (s : S4) (i : Nat) : Nat := (if i / 4 = 0 then s.a else if i / 4 = 1 then s.b else if i / 4 = 2 then s.c else s.d) / 2 ^ (8 * (i % 4)) % 256
/-- What stands behind bytes. -/
def padZ (n : Nat) : Nat := (119 - n % 64) % 64
def lenB (n : Nat) : List UInt8 := (List.range 8).map fun i => UInt8.ofNat (8 * n / 2 ^ (8 * i))
def padd (l : List UInt8) : List UInt8 := l ++ [128] ++ List.replicate (padZ l.length) 0 ++ lenB l.length
theorem lenB_length (n : Nat) : (lenB n).length = 8 := by simp [lenB]
theorem padd_length (l : List UInt8) : (padd l).length = l.length + 9 + padZ l.length := by
  simp [padd, lenB_length]; omega
theorem padd_mod (l : List UInt8) : (padd l).length % 64 = 0 := by rw [padd_length, padZ]; omega
def mdS (l : List UInt8) : S4 := HH (padd l) ((padd l).length / 64)
def mdV (l : List UInt8) : List Value := (List.range 16).map fun i => .int .u8 (byteS (mdS l) i : Nat)
/-- Or of what lies apart is the sum. -/
theorem or_add (x b : Nat) (h : b < 256) : x * 256 ||| b = x * 256 + b := by
  have := Nat.two_pow_add_eq_or_of_lt (i := 8) h x
  rw [Nat.mul_comm (2 ^ 8)] at this
  exact this.symm
theorem ofInt_u32 (a : Nat) (h : a < 4294967296) : (BitVec.ofInt 32 (a : Int)).toNat = a := by
  rw [BitVec.toNat_ofInt]; omega
theorem u32_wrap_lt (a : Nat) (h : a < 4294967296) : IntKind.u32.wrap (a : Int) = a := by
  simp only [IntKind.wrap, IntKind.bits, IntKind.signed]
  simp
  omega
theorem u32_wrap (a : Nat) : IntKind.u32.wrap (a : Int) = (a % 4294967296 : Nat) := by
  simp only [IntKind.wrap, IntKind.bits, IntKind.signed]
  simp
theorem u32_and (a b : Nat) (ha : a < 4294967296) (hb : b < 4294967296) : bits .and .u32 (a : Int) (b : Int) = ((a &&& b : Nat) : Int) := by
  have hx : a &&& b < 4294967296 := Nat.and_lt_two_pow (n := 32) _ hb
  show IntKind.u32.wrap ((BitVec.ofInt 32 (a : Int) &&& BitVec.ofInt 32 (b : Int)).toNat : Int) = _
  rw [BitVec.toNat_and, ofInt_u32 a ha, ofInt_u32 b hb, u32_wrap_lt _ hx]
theorem u32_or (a b : Nat) (ha : a < 4294967296) (hb : b < 4294967296) : bits .or .u32 (a : Int) (b : Int) = ((a ||| b : Nat) : Int) := by
  have hx : a ||| b < 4294967296 := or_lt_pow (n := 32) ha hb
  show IntKind.u32.wrap ((BitVec.ofInt 32 (a : Int) ||| BitVec.ofInt 32 (b : Int)).toNat : Int) = _
  rw [BitVec.toNat_or, ofInt_u32 a ha, ofInt_u32 b hb, u32_wrap_lt _ hx]
theorem u32_xor (a b : Nat) (ha : a < 4294967296) (hb : b < 4294967296) : bits .xor .u32 (a : Int) (b : Int) = ((a ^^^ b : Nat) : Int) := by
  have hx : a ^^^ b < 4294967296 := Nat.xor_lt_two_pow (n := 32) ha hb
  show IntKind.u32.wrap ((BitVec.ofInt 32 (a : Int) ^^^ BitVec.ofInt 32 (b : Int)).toNat : Int) = _
  rw [BitVec.toNat_xor, ofInt_u32 a ha, ofInt_u32 b hb, u32_wrap_lt _ hx]
theorem u32_not (x : Nat) (h : x < 4294967296) : bits .xor .u32 IntKind.u32.max (x : Int) = ((nt x : Nat) : Int) := u32_xor 4294967295 x (by omega) h
theorem u32_sg : IntKind.u32.signed = false := rfl
end Go.Proofs.YtibhhebfenkeaaaDoor
