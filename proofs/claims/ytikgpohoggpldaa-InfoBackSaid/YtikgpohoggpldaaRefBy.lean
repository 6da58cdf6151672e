/-
  jetsamref11.Bytes: the walk.
-/
import Derived.Test.YtikgpohoggpldaaWrite
namespace Go.Proofs.Ytikgpohoggpldaa
open Go.RowKit

theorem info_bool : (Try.prog.info? 4).map (fun i => (i.zero, i.size, i.bytes)) = some (some (.bool false), 1, 1) := by kernel_rfl
theorem one_bool (b : Bool) : ∀ u ∈ (#[Value.bool b]).toList, u.oneCell' = true := by intro u hu; simp at hu; subst hu; rfl
theorem one_u8 (n : Int) : ∀ u ∈ (#[Value.int .u8 n]).toList, u.oneCell' = true := one_int _ _
/-- Bits as values. -/
def boolV (l : List Nat) : List Value := l.map fun x => .bool (x == 1)
theorem boolV_append (l m : List Nat) : boolV (l ++ m) = boolV l ++ boolV m := by simp [boolV]
/-- The bits of a number, c of them, the highest one first: the first q. -/
def fbits (n c q : Nat) : List Nat := (List.range q).map fun j => n / 2 ^ (c - 1 - j) % 2
theorem fbits_succ (n c q : Nat) : fbits n c (q + 1) = fbits n c q ++ [n / 2 ^ (c - 1 - q) % 2] := by simp [fbits, List.range_succ]
theorem fbits_length (n c q : Nat) : (fbits n c q).length = q := by simp [fbits]
/-- The number in a field. -/
def fN (n : Nat → Int) (k : Nat) : Nat := (n (fT k) - fM k).toNat
/-- The bits of the first k fields. -/
def allF (n : Nat → Int) : Nat → List Nat
  | 0 => []
  | k + 1 => allF n k ++ fbits (fN n k) (fB k) (fB k)
theorem allF_length (n : Nat → Int) : ∀ k, k ≤ 8 → (allF n k).length = stK k
  | 0, _ => rfl
  | k + 1, h => by
    rw [allF, List.length_append, allF_length n k (by omega), fbits_length]
    exact (stK_le k (by omega)).1
theorem getD_bit (l : List Nat) (h : ∀ x ∈ l, x ≤ 1) (j : Nat) : l.getD j 0 ≤ 1 := by
  rw [List.getD_eq_getElem?_getD]
  cases e : l[j]? with
  | none => simp
  | some x => exact h x (List.mem_of_getElem? e)
theorem allF_le (n : Nat → Int) : ∀ k, ∀ x ∈ allF n k, x ≤ 1
  | 0, x, h => by cases h
  | k + 1, x, h => by
    rcases List.mem_append.1 h with h | h
    · exact allF_le n k x h
    · simp only [fbits, List.mem_map] at h
      obtain ⟨j, -, rfl⟩ := h
      have := Nat.mod_lt (fN n k / 2 ^ (fB k - 1 - j)) (show 0 < 2 by omega)
      omega
theorem allF_bit (n : Nat → Int) (k j : Nat) : (allF n k).getD j 0 ≤ 1 := getD_bit _ (allF_le n k) j
theorem tmod_one (x : Nat) (b : Nat) : ((((x : Int) / 2 ^ b).tmod 2) == 1) = (x / 2 ^ b % 2 == 1) := by
  rw [show ((x : Int) / 2 ^ b) = ((x / 2 ^ b : Nat) : Int) from by rw [Int.natCast_ediv, Int.natCast_pow]; rfl, Int.tmod_eq_emod_of_nonneg (Int.natCast_nonneg _)]
  generalize x / 2 ^ b = y
  rw [Bool.eq_iff_iff, beq_iff_eq, beq_iff_eq]
  omega

/-- Eight bits, the first one the highest. -/
def bitsum (f : Nat → Nat) : Nat → Nat
  | 0 => 0
  | c + 1 => 2 * bitsum f c + f c
def packN (l : List Nat) : List Nat := (List.range ((l.length + 7) / 8)).map fun j => bitsum (fun c => l.getD (8 * j + c) 0) 8
theorem bitsum_lt (f : Nat → Nat) (h : ∀ c, f c ≤ 1) : ∀ k, bitsum f k < 2 ^ k
  | 0 => by simp [bitsum]
  | k + 1 => by
    have := bitsum_lt f h k
    have := h k
    simp only [bitsum, Nat.pow_succ]; omega
def s16L (s : Nat → Int) : List Nat := (List.range 16).map fun i => (s i).toNat
theorem s16L_length (s : Nat → Int) : (s16L s).length = 16 := by simp [s16L]
theorem s16L_snoc (s : Nat → Int) (hs : ∀ i, i < 16 → 0 ≤ s i ∧ s i < 256) (P : List Nat) (k : Nat) (hk : k < 16) : nv8 (P ++ (s16L s).take (k + 1)) = nv8 (P ++ (s16L s).take k) ++ [.int .u8 (s k)] := by
  rw [List.take_succ_eq_append_getElem (by rw [s16L_length]; exact hk), ← List.append_assoc, nv8_append (P ++ _)]
  congr 1
  simp only [s16L, List.getElem_map, List.getElem_range, nv8, List.map_cons, List.map_nil]
  rw [Int.toNat_of_nonneg (hs k hk).1]
set_option maxRecDepth 100000 in
set_option maxHeartbeats 2000000 in
theorem refBytes_any (n s : Nat → Int) (hn : ∀ k, k < 8 → (fM k : Int) ≤ n (fT k) ∧ n (fT k) < 9223372036854775807) (hs : ∀ i, i < 16 → 0 ≤ s i ∧ s i < 256) (w : World) :
    Calls Try.prog 21 #[.agg (ofV (n 0) (n 1) (n 2) (n 3) (n 4) (n 5) (n 6) (n 7) s)] w fun e w' => ∃ v, e = .returned v ∧ Hid (w'.ownsRow w.heap.size 5 1 v 34 (nv8 (packN (allF n 8) ++ s16L s))) ∧ Below w.heap.size w w' := by
  have Hn := Lib.hid hn; clear hn
  have Hs := Lib.hid hs; clear hs
  have hG : RfAt (w.alloc (.cells (ofV (n 0) (n 1) (n 2) (n 3) (n 4) (n 5) (n 6) (n 7) s) 46)) w.heap.size n s := heap_alloc_last w _
  obtain ⟨w0, hw0, hb0⟩ : ∃ w0, w.alloc (.cells (ofV (n 0) (n 1) (n 2) (n 3) (n 4) (n 5) (n 6) (n 7) s) 46) = w0 ∧ Below w.heap.size w w0 := ⟨_, rfl, by repeat (first | exact Below.refl _ _ | assumption | refine below_drewN ?_ _ | refine Below.drew ?_ | refine Below.alloc ?_ (Nat.le_refl _) _ | refine bal ?_ _ | refine bnext ?_ (by assumption))⟩
  rw [hw0] at hG
  have HG := Lib.hid hG; clear hG
  generalize ofV (n 0) (n 1) (n 2) (n 3) (n 4) (n 5) (n 6) (n 7) s = V at *
  go_enter Try.func21, Try.ntmps21
  go_upto_region 1 with fail
  try rw [hw0]
  clear hw0
  go_wp2_with fail
  refine (fields_any _).mono ?_
  rintro e w1 ⟨rfl, hw1⟩
  have hF : w1.heap[w0.heap.size]? = some (.cells tabV 62 (0, 0)) := hw1 ▸ heap_alloc_last w0 _
  have hb1 : Below w.heap.size w w1 := by rw [hw1]; exact bal hb0 _
  have HG1 : Hid (RfAt w1 w.heap.size n s) := by rw [hw1]; exact hrow_alloc HG.out _
  have HF := Lib.hid hF
  have hFl : w0.heap.size < w1.heap.size := by rw [hw1]; simp
  have HF1 := Lib.hid hFl
  have Hgl : Hid (w.heap.size < w1.heap.size) := HG1.out.lt
  clear hw1 hF HG hb0 hFl
  generalize w0.heap.size = F at *
  obtain ⟨G, hGe⟩ : ∃ G, w.heap.size = G := ⟨_, rfl⟩
  rw [hGe] at HG1 ⊢
  have HGe := Lib.hid hGe; clear hGe
  have Hb1 := Lib.hid hb1; clear hb1
  go_wp2_with fail
  go_loopw [3, 5] (fun v kv wr => ∃ k : Nat, k ≤ 8 ∧ kv = .int .i64 k ∧ Hid (wr.ownsRow w1.heap.size 4 1 v (stK k) (boolV (allF n k))) ∧ Hid (Below w1.heap.size w1 wr)) (fun _ kv _ => 8 - (intOf kv).toNat)
  case atStart => exact ⟨0, by omega, rfl, World.ownsRow_nil w1 w1.heap.size _ 1, Below.refl _ _⟩
  case round =>
    obtain ⟨k, hk, rfl, Hv, Hb⟩ := hrel
    by_cases hkk : k < 8
    · obtain ⟨ks1, ks2, ks3, ks4, ks5, ks6⟩ := stK_le k hkk
      obtain ⟨t1, t2, t3⟩ := tab_at k hkk
      have HFr : Hid (wr.heap[F]? = some (.cells tabV 62 (0, 0))) := hrow_below HF.out Hb.out
      have HGr : Hid (RfAt wr G n s) := hrow_below HG1.out Hb.out
      have C1 : wr.cell? ⟨F, k * 3 + 1, none⟩ = some (.int .i64 (fB k : Nat)) := (cell_of_row wr F _ _ _ _ HFr.out).trans t2
      have C0 : wr.cell? ⟨F, k * 3, none⟩ = some (.int .i64 (fT k : Nat)) := (cell_of_row wr F _ _ _ _ HFr.out).trans t1
      have C2 : wr.cell? ⟨F, k * 3 + 2, none⟩ = some (.int .i64 (fM k : Nat)) := (cell_of_row wr F _ _ _ _ HFr.out).trans t3
      have CN := HGr.out.cellN (fT k) ks5
      obtain ⟨hn1, hn2⟩ := Hn.out k hkk
      have Hal : Hid (allF n (k + 1) = allF n k ++ fbits (fN n k) (fB k) (fB k)) := rfl
      have hfn : ((fN n k : Nat) : Int) = n (fT k) - fM k := Int.toNat_of_nonneg (by omega)
      have Hfn := Lib.hid hfn
      have Hks := Lib.hid ks1
      have hst : stK k + fB k ≤ 144 := by omega
      clear t1 t2 t3 HFr HGr hfn ks1
      generalize stK k = st at *
      generalize allF n k = al at *
      generalize n (fT k) = y at *
      generalize fB k = fb at *
      generalize fT k = ft at *
      generalize fM k = fm at *
      generalize hz : fN n k = z at *
      clear hz
      have hft : (ft : Int) < 8 := by omega
      obtain ⟨wo, rfl⟩ : ∃ wo : World, wo = wr := ⟨_, rfl⟩
      go_wp2_with fail
      go_quiet (fail)
      rw [← Hfn.out]
      go_wp2_with fail
      go_loopw [3, 7] (fun v bv wr => ∃ q : Nat, q ≤ fb ∧ bv = .int .i64 ((fb : Int) - 1 - q) ∧ Hid (wr.ownsRow w1.heap.size 4 1 v (st + q) (boolV (al ++ fbits z fb q))) ∧ Hid (Below w1.heap.size w1 wr)) (fun _ bv _ => (intOf bv + 1).toNat)
      case atStart => exact ⟨0, by omega, by simp, by rw [show fbits z fb 0 = [] from rfl, List.append_nil]; exact Hv.out, below_drewN Hb.out _⟩
      case round =>
        clear Hv Hb C0 C1 C2 CN
        obtain ⟨q, hq, rfl, Hv, Hb⟩ := hrel
        by_cases hqq : q < fb
        · obtain ⟨b, hbq⟩ : ∃ b, fb - 1 - q = b := ⟨_, rfl⟩
          have Hx : Hid (boolV (al ++ fbits z fb (q + 1)) = boolV (al ++ fbits z fb q) ++ [.bool (z / 2 ^ b % 2 == 1)]) := by
            show _ = _
            rw [fbits_succ, ← List.append_assoc, boolV_append, hbq]; rfl
          have Ht := Lib.hid (tmod_one z b)
          have e : ((fb : Int) - 1 - q) = (b : Int) := by omega
          rw [e]
          have hb36 : b < 36 := by omega
          have hbs := Hb.out.size
          have E := Lib.hid e
          clear e hbq
          go_upto_region 10 with fail
          go_wp2_with (first | (at_builtin; refine app1 (w0 := w1) rfl _ _ 66 rfl Try.underlying66 info_bool rfl (by decide) rfl Hv.out (Nat.le_refl _) hbs Hb.out rfl rfl (one_bool _) (by omega) (by unfold maxLen; omega) ?_; intro v1 w6 own1 hb6 hs6; have Hown1 := Lib.hid own1; have Hb6 := Lib.hid hb6; clear own1 hb6))
          go_roundw
          case rel =>
            refine ⟨q + 1, by omega, ?_, ?_⟩
            · have e := E.out
              have e2 : ((b : Int) - 1) = (fb : Int) - 1 - ((q + 1 : Nat) : Int) := by omega
              rw [e2]
            · rw [Hx.out, ← Ht.out]; exact Hown1
          case measure => simp [intOf]; omega
        · obtain rfl : q = fb := by omega
          go_wp2_with fail
          go_roundw
          case rel => exact ⟨k + 1, by omega, by go_num, by rw [Hal.out, ← Hks.out]; exact Hv, Hb⟩
          case measure => simp [intOf] <;> omega
    · obtain rfl : k = 8 := by omega
      rw [show stK 8 = 144 from rfl] at Hv
      obtain ⟨A1, c1, rfl, hc1, hr1⟩ := own_rd Hv.out
      have Hr1 := Lib.hid hr1
      have HGr : Hid (RfAt wr G n s) := hrow_below HG1.out Hb.out
      have hL : (allF n 8).length = 144 := allF_length n 8 (by omega)
      have HL := Lib.hid hL
      have hL1 : ∀ j, (allF n 8).getD j 0 ≤ 1 := allF_bit n 8
      have HL1 := Lib.hid hL1
      clear hr1 hL hL1 Hv
      generalize hLe : allF n 8 = L at *
      have HLe := Lib.hid hLe
      clear hLe
      have Hb0 : Hid (Below w.heap.size w wr) := bnext Hb1.out Hb.out
      clear Hb1 Hb HG1 HF HF1 Hgl
      obtain ⟨w2, rfl⟩ : ∃ w2, w2 = wr := ⟨_, rfl⟩
      go_wp2_with fail
      go_loopw [8, 9] (fun v iv wr => ∃ j : Nat, j ≤ 18 ∧ iv = .int .i64 (8 * j : Nat) ∧ Hid (wr.ownsRow w2.heap.size 5 1 v j (nv8 ((packN L).take j))) ∧ Hid (Below w2.heap.size w2 wr)) (fun _ iv _ => 152 - (intOf iv).toNat)
      case atStart => exact ⟨0, by omega, rfl, World.ownsRow_nil w2 w2.heap.size _ 1, Below.refl _ _⟩
      case round =>
        obtain ⟨j, hj, rfl, Hv, Hb⟩ := hrel
        by_cases hjj : j < 18
        · have hcast : ((8 * j : Nat) : Int) < 144 := by omega
          obtain ⟨w3, rfl⟩ : ∃ w3, w3 = wr := ⟨_, rfl⟩
          go_wp2_with fail
          go_loopw [10, 11] (fun nv_ cv wr => ∃ k : Nat, k ≤ 8 ∧ cv = .int .i64 k ∧ nv_ = .int .i64 (bitsum (fun c => L.getD (8 * j + c) 0) k : Nat) ∧ Hid (w3 = wr)) (fun _ cv _ => 8 - (intOf cv).toNat)
          case atStart => exact ⟨0, by omega, rfl, rfl, rfl⟩
          case round =>
            obtain ⟨k, hk, rfl, rfl, Hw⟩ := hrel
            have hww := Hw.out
            subst hww
            have hlt := bitsum_lt (fun c => L.getD (8 * j + c) 0) (fun c => HL1.out _) k
            have hp : 2 ^ k ≤ 256 := by
              calc 2 ^ k ≤ 2 ^ 8 := Nat.pow_le_pow_right (by omega) hk
                _ = 256 := rfl
            have Hs2 : Hid (bitsum (fun c => L.getD (8 * j + c) 0) (k + 1) = 2 * bitsum (fun c => L.getD (8 * j + c) 0) k + L.getD (8 * j + k) 0) := rfl
            have h1 := HL1.out (8 * j + k)
            by_cases hkk : k < 8
            · have hin : 8 * j + k < L.length := by have := HL.out; omega
              obtain ⟨b, o, rfl, hc⟩ := (Hr1.out.below Hb.out) (8 * j + k) (.bool (L.getD (8 * j + k) 0 == 1)) (by
                simp only [boolV, List.getElem?_map, List.getElem?_eq_getElem hin, Option.map_some, List.getD_eq_getElem?_getD, Option.getD_some])
              have hq1 : ((8 * j : Nat) : Int) + k < 144 := by omega
              by_cases hy : L.getD (8 * j + k) 0 = 1
              · rw [hy] at hc Hs2
                have hbt : ((1 : Nat) == 1) = true := rfl
                rw [hbt] at hc
                clear hbt hy h1 hin
                generalize bitsum (fun c => L.getD (8 * j + c) 0) k = m at *
                go_wp2_with fail
                go_roundw
                case rel => exact ⟨k + 1, by omega, by go_num, by rw [Hs2.out]; go_num, trivial⟩
                case measure => simp [intOf] <;> omega
              · have hy0 : L.getD (8 * j + k) 0 = 0 := by omega
                rw [hy0] at hc Hs2
                have hbt : ((0 : Nat) == 1) = false := rfl
                rw [hbt] at hc
                clear hbt hy h1 hin hy0
                generalize bitsum (fun c => L.getD (8 * j + c) 0) k = m at *
                go_wp2_with fail
                go_roundw
                case rel => exact ⟨k + 1, by omega, by go_num, by rw [Hs2.out]; go_num, trivial⟩
                case measure => simp [intOf] <;> omega
            · obtain rfl : k = 8 := by omega
              have Ht : Hid (nv8 ((packN L).take (j + 1)) = nv8 ((packN L).take j) ++ [.int .u8 (bitsum (fun c => L.getD (8 * j + c) 0) 8 : Nat)]) := by
                show _ = _
                have hjl : j < (packN L).length := by have := HL.out; simp [packN]; omega
                rw [List.take_succ_eq_append_getElem hjl, nv8_append]
                simp [nv8, packN]
              clear Hs2 h1
              generalize bitsum (fun c => L.getD (8 * j + c) 0) 8 = m at *
              have hs9 := Hb.out.size
              go_wp2_with (at_builtin; refine app1 (w0 := w2) rfl _ _ 41 rfl Try.underlying41 info_u8 rfl (by decide) rfl Hv.out (Nat.le_refl _) hs9 Hb.out rfl rfl (one_u8 _) (by omega) (by unfold maxLen; omega) ?_; intro v1 w6 own1 hb1 hs1; have Hown1 := Lib.hid own1; have Hb6 := Lib.hid hb1; clear own1 hb1)
              go_roundw
              case rel => exact ⟨j + 1, by omega, by go_num, by rw [Ht.out]; exact Hown1⟩
              case measure => simp [intOf] <;> omega
        · obtain rfl : j = 18 := by omega
          have Hpl : Hid ((packN L).length = 18) := by show _ = _; have := HL.out; simp [packN]; omega
          have Htk : Hid ((packN L).take 18 = packN L) := by show _ = _; rw [List.take_of_length_le (by rw [Hpl.out]; exact Nat.le_refl _)]
          rw [Htk.out] at Hv
          go_wp2_with fail
          go_loopw [8, 12] (fun v iv wr => ∃ k : Nat, k ≤ 16 ∧ iv = .int .i64 k ∧ Hid (wr.ownsRow w2.heap.size 5 1 v (18 + k) (nv8 (packN L ++ (s16L s).take k))) ∧ Hid (Below w2.heap.size w2 wr)) (fun _ iv _ => 16 - (intOf iv).toNat)
          case atStart => exact ⟨0, by omega, rfl, by rw [List.take_zero, List.append_nil]; exact Hv, Hb⟩
          case round =>
            clear Hv Hb
            obtain ⟨k, hk, rfl, Hv, Hb⟩ := hrel
            by_cases hkk : k < 16
            · have hcS := RfAt.cellS (hrow_below HGr.out Hb.out : RfAt wr G n s) k hkk
              have hsk := Hs.out k hkk
              have Ht : Hid (nv8 (packN L ++ (s16L s).take (k + 1)) = nv8 (packN L ++ (s16L s).take k) ++ [.int .u8 (s k)]) := by
                exact s16L_snoc s Hs.out _ k hkk
              have hs9 := Hb.out.size
              have hkc : (k : Int) < 16 := by omega
              generalize s k = x at *
              go_wp2_with (at_builtin; refine app1 (w0 := w2) rfl _ _ 41 rfl Try.underlying41 info_u8 rfl (by decide) rfl Hv.out (Nat.le_refl _) hs9 Hb.out rfl rfl (one_u8 _) (by omega) (by unfold maxLen; omega) ?_; intro v1 w6 own1 hb1 hs1; have Hown1 := Lib.hid own1; have Hb6 := Lib.hid hb1; clear own1 hb1)
              go_roundw
              case rel => exact ⟨k + 1, by omega, by go_num, by rw [Ht.out]; exact Hown1⟩
              case measure => simp [intOf] <;> omega
            · obtain rfl : k = 16 := by omega
              have Htk2 : Hid ((s16L s).take 16 = s16L s) := by show _ = _; rw [List.take_of_length_le (by rw [s16L_length]; exact Nat.le_refl _)]
              rw [Htk2.out] at Hv
              have hbe := bnext Hb0.out Hb.out
              have hle : w.heap.size ≤ w2.heap.size := Hb0.out.size
              go_wp2_with fail
              go_ret
              exact ⟨_, rfl, by rw [HGe.out, HLe.out] at *; exact ownsRow_less Hv.out hle, hbe⟩
end Go.Proofs.Ytikgpohoggpldaa
