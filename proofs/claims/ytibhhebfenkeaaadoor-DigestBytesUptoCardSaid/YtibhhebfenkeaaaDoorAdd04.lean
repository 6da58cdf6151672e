/-
  Digest.Add: its walk.
-/
import Derived.Test.YtibhhebfenkeaaaDoorDg04
namespace Go.Proofs.YtibhhebfenkeaaaDoor
open Go.RowKit

set_option maxRecDepth 100000 in
set_option maxHeartbeats 4000000 in
theorem Add_any (B R z : Nat) (l : List UInt8) (u : Value) (ls : List (List UInt8)) (A : Option Addr) (c : Nat) (w : World) (hD : Dg w B R (l.length / 64) l z u) (vs : List Value) (hvl : vs.length = ls.length) (HB0 : ∀ W u', FrW R u u' w W → Rd W A vs ∧ ∀ (j : Nat) (x : Value) (y : List UInt8), vs[j]? = some x → ls[j]? = some y → BZ W x y) (hz : z ≤ 100000) (hlen : l.length + ls.flatten.length ≤ 100000) (hll : ls.length ≤ 100000) (ht : Tabs w) (hR2 : 2 ≤ B) :
    Calls Tryd.prog 15 #[.pointer (some ⟨R, 0, none⟩), .slice A ls.length c] w fun e w' =>
      e = .returned (.tuple #[]) ∧ ∃ u', Dg w' B R ((l ++ ls.flatten).length / 64) (l ++ ls.flatten) (z + ls.flatten.length) u' ∧ FrW R u u' w w' := by
  have HD := Lib.hid hD
  have HB := Lib.hid HB0
  have HT := Lib.hid ht
  have Hlen := Lib.hid hlen
  clear hD HB0 ht hlen
  go_enter Tryd.func15, Tryd.ntmps15
  go_wp2_with fail
  go_loopw [5, 10] (fun x5 i wr => ∃ (j : Nat) (u' : Value), j ≤ ls.length ∧ i = .int .i64 j ∧ Hid (Dg wr B R ((l ++ (ls.take j).flatten).length / 64) (l ++ (ls.take j).flatten) (z + (ls.take j).flatten.length) u') ∧ Hid (FrW R u u' w wr)) (fun _ i _ => ls.length - (intOf i).toNat)
  case atStart => exact ⟨0, u, by omega, rfl, by have h := HD.out; show Dg _ _ _ _ _ _ _; simpa using h, FrW.refl _ _ _⟩
  case round =>
    obtain ⟨j, u1, hj, rfl, HDj, HFj⟩ := hrel
    by_cases hjj : j < ls.length
    · obtain ⟨hrd, hx⟩ := HB.out wr u1 HFj.out
      have hjI : (j : Int) < ls.length := by omega
      obtain ⟨b, o, rfl, hcell⟩ := hrd.at_ (j := j) (by omega)
      obtain ⟨A1, c1, e1, hc1, hr1, hn1⟩ := hx j vs[j] ls[j] (List.getElem?_eq_getElem (by omega)) (List.getElem?_eq_getElem hjj)
      rw [e1] at hcell
      have Hfl : Hid ((ls.take (j + 1)).flatten = (ls.take j).flatten ++ ls[j]) := by
        show _ = _
        rw [List.take_succ_eq_append_getElem hjj, List.flatten_append]
        simp
      have Hfl2 : Hid ((ls.take (j + 1)).flatten.length ≤ ls.flatten.length) := by
        show _ ≤ _
        have h := congrArg (fun x => x.flatten.length) (List.take_append_drop (j + 1) ls)
        simp only [List.flatten_append, List.length_append] at h
        omega
      have HE := Lib.hid (fun W u' (h : FrW R u u' w W) => ((HB.out W u' h).2 j vs[j] ls[j] (List.getElem?_eq_getElem (by omega)) (List.getElem?_eq_getElem hjj)).open' e1)
      generalize ls[j] = m at *
      clear hx e1 hrd
      rw [Hfl.out, List.length_append] at Hfl2
      generalize (ls.take j).flatten = F at *
      have hsz : l.length + F.length + m.length ≤ 100000 := by have := Hlen.out; have := Hfl2.out; omega
      have hDr := HDj.out
      have hc5 : wr.cell? ⟨R, 5, none⟩ = some (.int .i64 ((z + F.length : Nat) : Int)) := by rw [cell_of_row _ _ 5 _ _ _ hDr.row]; simp [stC]
      have hf := free_blk hDr.row
      have hml : (m.length : Int) ≤ 100000 := by omega
      obtain ⟨Z, hZ⟩ : ∃ Z, z + F.length = Z := ⟨_, rfl⟩
      rw [hZ] at hc5 hDr
      have hZl : (Z : Int) ≤ 200000 := by omega
      have hcount := hDr.count (Z + m.length)
      go_upto_region 5 with fail
      rw [Int.natCast_add] at hcount
      obtain ⟨hDa, hFa⟩ := hcount
      have HDa := Lib.hid hDa
      have HFa := Lib.hid (HFj.out.trans hFa)
      clear hDa hFa hDr hc5 hf hcell HDj HFj hr1 hc1 hn1
      generalize wr.setCell ⟨R, 5, none⟩ (.int .i64 ((Z : Int) + (m.length : Int))) = wa at *
      obtain ⟨-, hr1, hn1⟩ := HE.out wa u1 HFa.out
      have hc4 : wa.cell? ⟨R, 4, none⟩ = some u1 := by rw [cell_of_row _ _ 4 _ _ _ HDa.out.row]; simp [stC]
      have Hr1 := Lib.hid hr1
      have Hn1 := Lib.hid hn1
      have HRi : Hid (B ≤ wa.heap.size) := Nat.le_trans HDa.out.bR (Nat.le_of_lt HDa.out.inside)
      obtain ⟨L, hL⟩ : ∃ L, l ++ F = L := ⟨_, rfl⟩
      have hLl : L.length = l.length + F.length := by rw [← hL, List.length_append]
      rw [hL] at HDa
      have HLl := Lib.hid hLl
      have hdl : (bv (L.drop (64 * (L.length / 64)))).length + m.length ≤ 140737488355328 := by rw [bv_length, List.length_drop]; omega
      clear hr1 hn1 hLl
      go_wp2_with (at_builtin; refine appT rfl _ _ 22 rfl Tryd.underlying22 info_u8b rfl rfl HDa.out.tl HRi.out rfl Hr1.out (bv_length m) Hn1.out (bv_one m) hdl ?_; intro v2 w2 hT2 hg2 hat2; obtain ⟨A2, n2, c2, rfl, hn2⟩ := hT2.shape; have HT2 := Lib.hid hT2; have Hg2 := Lib.hid hg2; have Hat2 := Lib.hid hat2; have hrow2 := (hg2.block R HDa.out.inside (fun e => HDa.out.apart e.symm)).trans HDa.out.row; have hc42 := cell_of_row _ _ 4 _ _ _ hrow2; simp only [stC, List.cons_append, List.nil_append, List.getElem?_toArray, List.getElem?_cons_succ, List.getElem?_cons_zero] at hc42; have hf42 := free_blk hrow2 4; clear hT2 hg2 hat2 hrow2 hn2)
      obtain ⟨hDb, hFb⟩ := HDa.out.grown HT2.out Hg2.out Hat2.out
      have HFb := Lib.hid (HFa.out.trans hFb)
      have HDb := Lib.hid hDb
      clear hDb hFb HT2 Hg2 Hat2 HDa HFa hc4 hc42 hf42 Hr1 Hn1 hdl
      generalize w2.setCell ⟨R, 4, none⟩ (.slice A2 n2 c2) = wb at *
      obtain ⟨M, hM⟩ : ∃ M, L ++ m = M := ⟨_, rfl⟩
      have hMl : M.length = L.length + m.length := by rw [← hM, List.length_append]
      rw [hM] at HDb
      have Hfin : Hid (∀ v W, Dg W B R (M.length / 64) M (Z + m.length) v → Dg W B R ((l ++ (F ++ m)).length / 64) (l ++ (F ++ m)) (z + (F ++ m).length) v) := by
        intro v W h
        rw [← List.append_assoc, hL, hM, List.length_append, ← Nat.add_assoc, hZ]
        exact h
      rw [← Hfl.out] at Hfin
      have hM100 : M.length ≤ 100000 := by have := HLl.out; omega
      clear hL hM hZ hMl Hfl2 HLl
      go_loopw [35] (fun x35 w3 => ∃ (k : Nat) (u' : Value), Hid (Dg w3 B R k M (Z + m.length) u') ∧ Hid (FrW R u u' w w3)) (fun _ w3 => slLen (w3.cell? ⟨R, 4, none⟩))
      case atStart => exact ⟨_, _, HDb.out, HFb.out⟩
      case round =>
        clear HDb HFb
        obtain ⟨k, u3, HDk, HFk⟩ := hrel
        obtain ⟨A3, c3, e3, hc3, hmx3, hr3, hn3, hb3, hs3⟩ := HDk.out.tl.form
        have e3' : u3 = .slice A3 (M.length - 64 * k) c3 := by rw [e3, bv_length, List.length_drop]
        subst e3'
        have hle := HDk.out.le
        have hrow := HDk.out.row
        have hc4 : wr.cell? ⟨R, 4, none⟩ = some (.slice A3 (M.length - 64 * k) c3) := by rw [cell_of_row _ _ 4 _ _ _ hrow]; simp [stC]
        have hf4 := free_blk hrow 4
        obtain ⟨n, hn⟩ : ∃ n, M.length - 64 * k = n := ⟨_, rfl⟩
        by_cases hge : 64 ≤ n
        · have hn64 : (n : Int) ≥ 64 := by omega
          have hch : ((M.drop (64 * k)).take 64).length = 64 := by rw [List.length_take, List.length_drop]; omega
          have hA : Rd wr.drew A3 (bv ((M.drop (64 * k)).take 64)) := by
            intro i x hx
            obtain ⟨b5, o5, e5, hc5⟩ := hr3 i x (by
              have hi : i < 64 := by have := (List.getElem?_eq_some_iff.1 hx).1; rw [bv_length, hch] at this; exact this
              rw [← hx]
              unfold bv
              rw [List.getElem?_map, List.getElem?_map, List.getElem?_take, if_pos hi])
            exact ⟨b5, o5, e5, hc5⟩
          have HTk := take_any R (HH M k) (HH_ok M k) [.slice A3 (M.length - 64 * k) c3, .int .i64 ((Z + m.length : Nat) : Int)] 55 _ A3 c3 wr.drew hrow hA hch (fun o e => HDk.out.apart (by rw [e]; rfl)) ((HT.out.frw HFk.out HD.out hR2).below ((Below.refl _ _).drew)) (Nat.le_trans hR2 HDk.out.bR)
          rw [HH_cut] at HTk
          have HTk := Lib.hid HTk
          have hc364 : (64 : Int) ≤ (c3 : Int) := by rw [bv_length, List.length_drop] at hc3; omega
          have hcM : 64 * (k + 1) ≤ M.length := by omega
          have hcut := Lib.hid (fun W (h : Tl W B (.slice A3 n c3) (bv (M.drop (64 * k)))) => h.cut (m := 64) hge (by omega))
          have hdr : (bv (M.drop (64 * k))).drop 64 = bv (M.drop (64 * (k + 1))) := by
            unfold bv
            rw [← List.map_drop, List.drop_drop]
            congr 2
          rw [hdr] at hcut
          have hA3 : ∀ b5, (Value.slice A3 n c3).ownBlock = some b5 → b5 ≠ R := fun b5 e h => HDk.out.apart (by rw [hn, e, h])
          have HA3 := Lib.hid hA3
          have Htl := HDk.out.tl
          rw [hn] at hc4 HTk hrow Htl
          have Htl := Lib.hid Htl
          obtain ⟨A4, hA4⟩ : ∃ A4, (if c3 = 64 then A3 else Option.map (fun x => x.add 64) A3) = A4 := ⟨_, rfl⟩
          rw [hA4] at hcut
          have hob : (Value.slice A4 (n - 64) (c3 - 64)).ownBlock = (Value.slice A3 n c3).ownBlock := by
            rw [← hA4]
            split
            · cases A3 <;> rfl
            · cases A3 with
              | none => rfl
              | some q => simp [Value.ownBlock, Addr.add]
          have hA4' : (if c3 = 64 then A3 else Option.map (fun x : Addr => ({ block := x.block, off := x.off + 64 } : Addr)) A3) = A4 := by rw [← hA4]; rfl
          clear hA4
          have Hob := Lib.hid hob
          have Hrow := Lib.hid hrow
          have hmx : c3 ≤ maxLen := hmx3
          have Hcut := hcut
          clear hob hrow hdr hA3 hA hch hr3 hn3 hb3 hs3 e3 hle hc3 hmx3
          go_wp2_with fail
          refine wp_region_still_tail 8 (by kernel_rfl) (by kernel_rfl) ?_
          simp only [List.take_succ_cons, List.take_zero, List.drop_succ_cons, List.drop_zero]
          repeat still_step
          refine wpStill_nil ?_
          change wpList _ _ _ _ _ wr.drew
          go_wp2_with fail
          refine HTk.out.mono ?_
          rintro e w4 ⟨rfl, hrow4, hf4'⟩
          have Hr4 := Lib.hid hrow4
          have Hf4 := Lib.hid hf4'
          have hc44 : w4.cell? ⟨R, 4, none⟩ = some (.slice A3 n c3) := by rw [cell_of_row _ _ 4 _ _ _ hrow4]; simp [stC]
          have hf44 := free_blk hrow4 4
          clear hrow4 hf4' HTk
          go_wp2_with fail
          have HT4 := Lib.hid (Hcut.out w4 (Htl.out.block (w' := w4) (fun b5 e => Hf4.out.block b5 (HDk.out.tl.lt b5 (by rw [hn]; exact e)).2 (HA3.out b5 e))))
          go_roundw
          case rel =>
            refine ⟨k + 1, .slice A4 (n - 64) (c3 - 64), ⟨?_, ?_, hcM, fun e => HA3.out R (Hob.out.symm.trans e) rfl, HDk.out.bR⟩, HFk.out.trans ?_⟩
            · exact hrow_set Hr4.out (by simp [stC])
            · exact HT4.out.block (fun b5 e => heap_setCell_other w4 _ _ _ (fun h => HA3.out b5 (by rw [← Hob.out]; exact e) h))
            · rw [hn]
              exact ⟨(((Fr.refl _ wr).drew.trans (Hf4.out.wide (fun _ h => .inl h))).setCell (p := ⟨R, 4, none⟩) (.inl rfl) _), .inl Hob.out⟩
          case measure =>
            have e5 : (w4.setCell ⟨R, 4, none⟩ (.slice A4 (n - 64) (c3 - 64))).cell? ⟨R, 4, none⟩ = some (.slice A4 (n - 64) (c3 - 64)) := World.cell?_setCell_same' _ _ _ (by rw [hc44]; rfl)
            rw [e5, hc4]
            show n - 64 < n
            omega
        · have hlt : ¬ ((n : Int) ≥ 64) := by omega
          have hkM : k = M.length / 64 := by omega
          rw [hn] at hc4 HDk HFk
          have HDf := HDk.out
          rw [hkM] at HDf
          have HDf := Lib.hid (Hfin.out _ _ HDf)
          clear hrow hf4 hkM hle e3 hc3 hmx3 hr3 hn3 hb3 hs3
          go_wp2_with fail
          go_roundw
          case rel => exact ⟨j + 1, _, by omega, by go_num, HDf.out, HFk.out⟩
          case measure => simp [intOf] <;> omega
    · obtain rfl : j = ls.length := by omega
      have HDj' := HDj.out
      rw [List.take_of_length_le (Nat.le_refl _)] at HDj'
      have HDj' := Lib.hid HDj'
      go_wp2_with fail
      go_end0
      exact ⟨rfl, _, HDj'.out, HFj.out⟩
end Go.Proofs.YtibhhebfenkeaaaDoor
