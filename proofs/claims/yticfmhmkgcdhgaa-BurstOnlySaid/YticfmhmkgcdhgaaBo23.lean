/-
  burst.Apply: bytes with bursts (2).
-/
import Derived.Test.YticfmhmkgcdhgaaBo22
set_option linter.unusedSimpArgs false
set_option linter.unusedVariables false
namespace Go.Proofs.Yticfmhmkgcdhgaa
open Go.RowKit
open Crc (burstB dmg flip bl)

theorem RdT.alloc {w : World} {A : Option Addr} {l : List T3} (h : RdT w A l) (o : Obj) : RdT (w.alloc o) A l := h.below ((Below.refl _ _).alloc (Nat.le_refl _) _)
theorem own_rest {w : World} {base n : Nat} {e : TypeId} {v : Value} {xs : List Value} (h : w.ownsRow base e 1 v n xs) (hn : 0 < n) :
    ∃ g cap rest, v = .slice (some ⟨g, 0, none⟩) n cap ∧ base ≤ g ∧ w.heap[g]? = some (.cells (xs ++ rest).toArray e (0, 0)) ∧ n ≤ cap ∧ cap ≤ maxLen ∧ xs.length + rest.length = cap ∧ xs.length = n := by
  have hx := h.1
  rcases h.2 with ⟨_, h0⟩ | ⟨g, cap, cur, rfl, hb, hg, hc, hm, hs, ht⟩
  · omega
  · rw [Nat.mul_one] at ht hs hx
    refine ⟨g, cap, cur.toList.drop n, rfl, hb, ?_, hc, hm, ?_, hx⟩
    · rw [← ht, List.take_append_drop]; simpa using hg
    · rw [hx, List.length_drop, Array.length_toList, hs]; omega
theorem rest_own {w : World} {base n g cap : Nat} {e : TypeId} {xs rest : List Value} (hb : base ≤ g) (hg : w.heap[g]? = some (.cells (xs ++ rest).toArray e (0, 0))) (hc : n ≤ cap) (hm : cap ≤ maxLen) (hl : xs.length + rest.length = cap) (hx : xs.length = n) :
    w.ownsRow base e 1 (.slice (some ⟨g, 0, none⟩) n cap) n xs := by
  refine ⟨by omega, .inr ⟨g, cap, _, rfl, hb, hg, hc, hm, by simp; omega, ?_⟩⟩
  rw [List.toList_toArray, Nat.mul_one, List.take_append_of_le_length (by omega), List.take_of_length_le (by omega)]

set_option maxRecDepth 100000 in
set_option maxHeartbeats 1600000 in
theorem Apply_any (bs : List UInt8) (A : Option Addr) (c : Nat) (xs : List T3) (X : Option Addr) (cx : Nat) (w : World) (hr : Rd w A (bv bs)) (hl : bs.length ≤ 1000) (hn : A = none → bs.length = 0 ∧ c = 0) (hx : RdT w X xs) (hok : ∀ x ∈ xs, okT x) (hxl : (xs.length : Int) ≤ 100000) :
    Calls Try.prog 18 #[.slice A bs.length c, .slice X xs.length cx] w fun e w' => Below w.heap.size w w' ∧ ((xs.any (badX bs.length) = true ∧ e = .returned (.tuple #[.slice none 0 0, .int .i64 10])) ∨
      (xs.any (badX bs.length) = false ∧ ∃ v, e = .returned (.tuple #[v, .int .i64 0]) ∧ Hid (w'.ownsRow w.heap.size 5 1 v bs.length (bv (apL bs xs))))) := by
  have HCF := Lib.hid (ContainsFunc_any xs X cx w.heap.size bs.length c A (by omega) hok (by omega) (w.alloc (.cells #[.slice A bs.length c] 22)) (hx.alloc _) (by go_simp))
  have HC := Lib.hid (fun W (h : Below w.heap.size w W) => clone_any bs A c W (hr.below h) (by omega) hn)
  have Hx := Lib.hid (fun W (h : Below w.heap.size w W) => hx.below h)
  clear hr hn hx
  have Hgood : Hid (xs.any (badX bs.length) = false → ∀ x ∈ xs, ckE x.a x.n x.v bs.length = 0) := fun h x hx => by
    have := List.any_eq_false.1 h x hx
    simpa [badX] using this
  obtain ⟨bad, hbad⟩ : ∃ b, xs.any (badX bs.length) = b := ⟨_, rfl⟩
  rw [hbad] at HCF Hgood ⊢
  clear hbad
  cases bad
  · have hgood := Hgood.out rfl
    by_cases hx0 : xs = []
    · subst hx0
      clear hgood Hgood hok
      simp only [List.length_nil] at *
      go_enter Try.func18, Try.ntmps18
      go_wp2_with fail
      refine HCF.out.mono ?_
      rintro e w1 ⟨rfl, hb1⟩
      have hB1 := (hb1.cell (p := ⟨w.heap.size, 0, none⟩) (by simp)).trans (show (w.alloc (.cells #[.slice A bs.length c] 22)).cell? ⟨w.heap.size, 0, none⟩ = some (.slice A bs.length c) from by go_simp)
      have hb2 : Below w.heap.size w w1 := bnext (bal (Below.refl _ _) _) hb1
      clear hb1 HCF
      go_wp2_with fail
      refine (HC.out _ hb2).mono ?_
      rintro e w2 ⟨v, rfl, Hown, hb3⟩
      have hb4 := bnext hb2 hb3
      have Hown' : Hid (w2.ownsRow w.heap.size 5 1 v bs.length (bv bs)) := ownsRow_less Hown.out hb2.size
      clear Hown hb3
      obtain ⟨A9, c9, rfl⟩ := own_form Hown'.out
      go_wp2_with fail
      go_loopw [8, 16] (fun u i wr => i = .int .i64 0 ∧ wr = w2) (fun _ i _ => 0)
      case atStart => exact ⟨rfl, rfl⟩
      case round =>
        obtain ⟨rfl, rfl⟩ := hrel
        go_wp2_with fail
        refine bodyPost_ret (v := .tuple #[.slice A9 bs.length c9, .int .i64 0]) (by simp [results, Try.results18, go_sem]) rfl ?_
        exact ⟨hb4, .inr ⟨by first | rfl | trivial, _, rfl, Hown'⟩⟩
    · have hpos : 0 < bs.length := by
        obtain ⟨x, hx⟩ := List.exists_mem_of_ne_nil _ hx0
        obtain ⟨a, n, p, -, -, -, h1, -, -, -, -, h2⟩ := ckE_ok _ _ _ _ (hgood x hx) (hok x hx)
        omega
      have HG := Lib.hid (fun k (hk : k < xs.length) => ckE_ok _ _ _ _ (hgood xs[k] (List.getElem_mem hk)) (hok xs[k] (List.getElem_mem hk)))
      have Hpos := Lib.hid hpos
      clear hgood Hgood hok hx0 hpos
      go_enter Try.func18, Try.ntmps18
      go_wp2_with fail
      refine HCF.out.mono ?_
      rintro e w1 ⟨rfl, hb1⟩
      have hB1 := (hb1.cell (p := ⟨w.heap.size, 0, none⟩) (by simp)).trans (show (w.alloc (.cells #[.slice A bs.length c] 22)).cell? ⟨w.heap.size, 0, none⟩ = some (.slice A bs.length c) from by go_simp)
      have hb2 : Below w.heap.size w w1 := bnext (bal (Below.refl _ _) _) hb1
      clear hb1 HCF
      go_wp2_with fail
      refine (HC.out _ hb2).mono ?_
      rintro e w2 ⟨v, rfl, Hown, hb3⟩
      have hb4 := bnext hb2 hb3
      obtain ⟨g, cap, rest, rfl, hg, hblk, hcap, hmax, hrl, -⟩ := own_rest Hown.out Hpos.out
      have hgw : w.heap.size ≤ g := Nat.le_trans hb2.size hg
      have Hblk0 : Hid (w2.heap[g]? = some (.cells (bv (apL bs (xs.take 0)) ++ rest).toArray 5 (0, 0))) := hblk
      have Hrl := Lib.hid hrl
      have Hmax := Lib.hid hmax
      have Hgw := Lib.hid hgw
      have Hb4 := Lib.hid hb4
      clear Hown hb3 hblk hg hb2 hB1 HC hrl hmax hgw hb4 Hpos
      go_wp2_with fail
      go_loopw [8, 16] (fun u i wr => ∃ k : Nat, k ≤ xs.length ∧ i = .int .i64 k ∧ Hid (wr.heap[g]? = some (.cells (bv (apL bs (xs.take k)) ++ rest).toArray 5 (0, 0))) ∧ Hid (Below w.heap.size w wr)) (fun _ i _ => xs.length - (intOf i).toNat)
      case atStart => exact ⟨0, by omega, rfl, Hblk0, Hb4.out⟩
      case round =>
        obtain ⟨k, hk, rfl, Hblk, Hb⟩ := hrel
        clear Hblk0 Hb4
        by_cases hkk : k < xs.length
        · obtain ⟨b, o, rfl, hc0, hc1, hc2⟩ := (Hx.out _ Hb.out) k xs[k] (List.getElem?_eq_getElem hkk)
          obtain ⟨a, n, p, ha, hn, hp, -, hn16, hp16, -, -, hat⟩ := HG.out k hkk
          have Hs : Hid (apL bs (xs.take (k + 1)) = burstB (apL bs (xs.take k)) a n p) := by
            show _ = _
            rw [List.take_succ_eq_append_getElem hkk]
            simp only [apL, List.foldl_append, List.foldl_cons, List.foldl_nil, ha, hn, hp, Int.toNat_natCast]
          rw [ha] at hc0
          rw [hn] at hc1
          rw [hp] at hc2
          have hLl : (apL bs (xs.take k)).length = bs.length := apL_length _ _
          generalize apL bs (xs.take k) = L at *
          have HT := Lib.hid (turn_any L rest g cap a n p (wr.alloc (.cells #[.int .i64 a, .int .i64 n, .int .i64 p] 28)) (hrow_alloc Hblk.out _) (by omega) hn16 hp16 (by omega))
          rw [hLl] at HT
          have Hba := Lib.hid (bal Hb.out (.cells #[.int .i64 a, .int .i64 n, .int .i64 p] 28))
          clear hLl ha hn hp hn16 hp16 hat
          go_wp2_with fail
          refine HT.out.mono ?_
          rintro e w3 ⟨rfl, Hblk3, hb3⟩
          have Hblk3' : Hid (w3.heap[g]? = some (.cells (bv (burstB L a n p) ++ rest).toArray 5 (0, 0))) := Hblk3
          have Hb3 : Hid (Below w.heap.size w w3) := Hba.out.trans (hb3.mono Hgw.out)
          clear HT Hba Hblk3 hb3 Hblk Hb
          go_wp2_with fail
          go_roundw
          case rel => exact ⟨k + 1, by omega, by go_num, by rw [Hs.out]; exact Hblk3', Hb3⟩
          case measure => simp [intOf] <;> omega
        · obtain rfl : k = xs.length := by omega
          go_wp2_with fail
          refine bodyPost_ret (v := .tuple #[.slice (some ⟨g, 0, none⟩) bs.length cap, .int .i64 0]) (by simp [results, Try.results18, go_sem]) rfl ?_
          have h := Hblk.out
          rw [List.take_of_length_le (Nat.le_refl _)] at h
          refine ⟨Hb.out, .inr ⟨by first | rfl | trivial, _, rfl, ?_⟩⟩
          exact rest_own Hgw.out h hcap Hmax.out (by rw [← Hrl.out, bv_length, bv_length, apL_length]) (by rw [bv_length, apL_length])
  · clear Hgood Hx hok HC
    go_enter Try.func18, Try.ntmps18
    go_wp2_with fail
    refine HCF.out.mono ?_
    rintro e w1 ⟨rfl, hb1⟩
    have hb2 : Below w.heap.size w w1 := bnext (bal (Below.refl _ _) _) hb1
    go_wp2_with fail
    refine bodyPost_ret (v := .tuple #[.slice none 0 0, .int .i64 10]) (by simp [results, Try.results18, go_sem]) rfl ?_
    exact ⟨hb2, .inl ⟨by first | rfl | trivial, rfl⟩⟩
end Go.Proofs.Yticfmhmkgcdhgaa
