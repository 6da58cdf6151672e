/-
  jetsamref18.Turn: its walk.
-/
import Derived.Test.YticfmhmkgcdhgaaTrn18
namespace Go.Proofs.Yticfmhmkgcdhgaa
open Go.RowKit
open Crc (burstB dmg bl bk bits8 bitsOf bits8_le bitsOf_le)

theorem nv_one (l : List Nat) : ∀ u ∈ nv l, u.oneCell' = true := by
  intro u hu
  obtain ⟨x, -, rfl⟩ := List.mem_map.1 hu
  rfl
theorem blk_setN {wr : World} {g k : Nat} {L : List Nat} {rest : List Value} {t : TypeId} {x : Nat} (h : wr.heap[g]? = some (.cells (nv L ++ rest).toArray t (0, 0))) (hidx : k < L.length) :
    Hid ((wr.setCell ⟨g, k, none⟩ (.int .i64 (x : Int))).drew.heap[g]? = some (.cells (nv (L.set k x) ++ rest).toArray t (0, 0))) := by
  show (wr.setCell _ _).heap[g]? = _
  have e2 : nv (L.set k x) = (nv L).set k (.int .i64 (x : Int)) := by unfold nv; rw [List.map_set]
  rw [e2, ← List.set_append_left _ _ (by rw [nv_length]; exact hidx)]
  simp [World.setCell, Array.getElem?_modify, h]

set_option maxRecDepth 100000 in
set_option maxHeartbeats 1600000 in
theorem Turn_any (b : List Nat) (hb1 : ∀ x ∈ b, x ≤ 1) (A : Option Addr) (c a n p : Nat) (w : World) (hr : Rd w A (nv b)) (hnil : A = none → c = 0) (hn1 : 1 ≤ n) (hn : n ≤ 16) (hp : p < 65536) (hat : a + n ≤ b.length) (hlen : b.length ≤ 10000) :
    Calls Try.prog 17 #[.slice A b.length c, .int .i64 a, .int .i64 n, .int .i64 p] w fun e w' =>
      ∃ v, e = .returned v ∧ w'.ownsRow w.heap.size 3 1 v b.length (nv (rT b a n p n)) ∧ Below w.heap.size w w' := by
  have Hr := Lib.hid hr
  have Hn := Lib.hid hnil
  have Hone := Lib.hid (nv_one b)
  have Hl := Lib.hid (nv_length b)
  have HO := Lib.hid (World.ownsRow_nil w w.heap.size 3 1)
  have Hle := Lib.hid (rT_le b hb1 a n p)
  have Hlr := Lib.hid (rT_length b a n p)
  clear hr hnil hb1
  go_enter Try.func17, Try.ntmps17
  go_upto_region 3 with (at_builtin; refine appN (w0 := w) (base := w.heap.size) rfl _ _ 32 rfl Try.underlying32 info_int rfl rfl HO.out (Nat.le_refl _) (Nat.le_refl _) (Below.refl _ _) rfl Hr.out Hl.out Hn.out Hone.out (by omega) (by unfold maxLen; omega) ?_; intro v1 w6 own1 hb6 hs6 hnil6; rw [List.nil_append, Nat.zero_add] at own1; have Hown1 := Lib.hid own1; have Hb6 := Lib.hid hb6; clear own1 hb6 hnil6)
  obtain ⟨g, cap, rest, rfl, hg, hblk, hcap, hmax, hrl, -⟩ := own_rest Hown1.out (by omega)
  have Hblk0 : Hid (w6.heap[g]? = some (.cells (nv (rT b a n p 0) ++ rest).toArray 3 (0, 0))) := hblk
  have Hrl := Lib.hid hrl
  have Hmax := Lib.hid hmax
  have Hcap := Lib.hid hcap
  have Hg := Lib.hid hg
  clear hblk hrl hmax hcap hg Hown1
  go_wp2_with fail
  go_loopw [10] (fun i wr => ∃ j : Nat, j ≤ n ∧ i = .int .i64 j ∧ Hid (wr.heap[g]? = some (.cells (nv (rT b a n p j) ++ rest).toArray 3 (0, 0))) ∧ Hid (Below w.heap.size w wr)) (fun i _ => n - (intOf i).toNat)
  case atStart => exact ⟨0, by omega, rfl, Hblk0, Hb6.out⟩
  case round =>
    obtain ⟨j, hj, rfl, Hblk, Hb⟩ := hrel
    by_cases hjj : j < n
    · obtain ⟨m, hm⟩ : ∃ m, n = j + 1 + m := ⟨n - j - 1, by omega⟩
      have hm1 : (n : Int) - 1 - (j : Int) = (m : Int) := by omega
      have hm2 : (0 : Int) ≤ m := by omega
      have hm64 : min m 64 = m := by omega
      have Hs : Hid (rT b a n p (j + 1) = (rT b a n p j).set (a + j) (((rT b a n p j).getD (a + j) 0 + p / 2 ^ m) % 2)) := by
        show _ = _
        rw [rT, show n - 1 - j = m from by omega]
      have hlj := Hlr.out j
      have hlej := Hle.out j
      generalize rT b a n p j = D at *
      have hidx : a + j < D.length := by omega
      have hx1 := hlej _ (List.getElem_mem hidx)
      have Hgd : Hid (D.getD (a + j) 0 = D[a + j]) := by show _ = _; rw [List.getD_eq_getElem?_getD, List.getElem?_eq_getElem hidx]; rfl
      have hcell : wr.cell? ⟨g, a + j, none⟩ = some (.int .i64 (D[a + j] : Nat)) := by
        rw [cell_of_row wr _ _ _ _ _ Hblk.out, List.getElem?_toArray, List.getElem?_append_left (by rw [nv_length]; exact hidx)]
        exact nv_get _ _ hidx
      have hfr : wr.frozen? ⟨g, a + j, none⟩ = false := free_blk Hblk.out _
      generalize D[a + j] = x at *
      have Hidx := Lib.hid hidx
      have hpm : (p : Int) / 2 ^ m ≤ 65536 := by
        rw [show ((p : Int) / 2 ^ m) = ((p / 2 ^ m : Nat) : Int) from by simp]
        have := Nat.div_le_self p (2 ^ m)
        omega
      have hpm0 : (0 : Int) ≤ (p : Int) / 2 ^ m := by
        rw [show ((p : Int) / 2 ^ m) = ((p / 2 ^ m : Nat) : Int) from by simp]
        exact Int.natCast_nonneg _
      have hi0 : (0 : Int) ≤ (a : Int) + j := by omega
      have hi1 : (a : Int) + j < b.length := by omega
      have hi2 : ((a : Int) + j).toNat = a + j := by omega
      clear hlj hlej hidx hm
      go_wp2_with fail
      go_region
      have ev : ((x : Int) + (p : Int) / 2 ^ m) % 2 = (((x + p / 2 ^ m) % 2 : Nat) : Int) := by simp
      rw [ev]
      clear ev hpm hpm0 hm1 hm2 hm64 hcell hfr hi0 hi1 hi2 hx1
      go_wp2_with fail
      refine ⟨⟨j + 1, by omega, by go_num, ?_, Below.drew (Below.setCell Hb.out Hg.out _)⟩, by simp [intOf] <;> omega⟩
      rw [Hs.out, Hgd.out]
      exact blk_setN Hblk.out Hidx.out
    · obtain rfl : j = n := by omega
      go_wp2_with fail
      go_ret
      refine ⟨_, rfl, ?_, Hb.out⟩
      exact rest_own Hg.out Hblk.out Hcap.out Hmax.out (by rw [← Hrl.out, nv_length, nv_length, Hlr.out]) (by rw [nv_length, Hlr.out])
end Go.Proofs.Yticfmhmkgcdhgaa
