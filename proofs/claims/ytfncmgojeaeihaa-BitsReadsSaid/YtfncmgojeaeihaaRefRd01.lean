/-
  jetsamref01.Reader: the walks.
-/
import Derived.Test.YtfncmgojeaeihaaNum01
namespace Go.Proofs.Ytfncmgojeaeihaa
open Go.RowKit

/-- The reference's Reader. -/
structure RRdr (w : World) (X t : Nat) (A : Option Addr) (bs : List Nat) (c : Nat) : Prop where
  row : w.heap[X]? = some (.cells #[.slice A bs.length c, .int .i64 t] 44 (0, 0))
  rd : Rd w A (iv8 bs)
  le : t ≤ bs.length
  cap : bs.length ≤ c
  bit : ∀ b ∈ bs, b < 2
  ap : ∀ k o, A = some ⟨k, o, none⟩ → k ≠ X
  few : bs.length ≤ 4000000
theorem RRdr.c0 {w : World} {X t : Nat} {A : Option Addr} {bs : List Nat} {c : Nat} (h : RRdr w X t A bs c) : w.cell? ⟨X, 0, none⟩ = some (.slice A bs.length c) := cell_of_row w X 0 _ _ _ h.row
theorem RRdr.c1 {w : World} {X t : Nat} {A : Option Addr} {bs : List Nat} {c : Nat} (h : RRdr w X t A bs c) : w.cell? ⟨X, 1, none⟩ = some (.int .i64 t) := cell_of_row w X 1 _ _ _ h.row
theorem RRdr.fz {w : World} {X t : Nat} {A : Option Addr} {bs : List Nat} {c : Nat} (h : RRdr w X t A bs c) (i : Nat) : w.frozen? ⟨X, i, none⟩ = false := frozen_of_row w X i _ _ h.row
theorem RRdr.keep {S : Nat → Prop} {w w' : World} {X t : Nat} {A : Option Addr} {bs : List Nat} {c : Nat} (h : RRdr w X t A bs c) (f : Fr S w w') (hX : ¬ S X) (hA : ∀ k o, A = some ⟨k, o, none⟩ → ¬ S k) : RRdr w' X t A bs c :=
  ⟨f.row h.row hX, h.rd.fr f (fun k o e _ => hA k o e), h.le, h.cap, h.bit, h.ap, h.few⟩
theorem RRdr.below {w w' : World} {X t : Nat} {A : Option Addr} {bs : List Nat} {c : Nat} (h : RRdr w X t A bs c) (b : Below w.heap.size w w') : RRdr w' X t A bs c :=
  h.keep (Fr.of (S := fun _ => False) b) id (fun _ _ _ => id)
theorem RRdr.drewN {w : World} {X t : Nat} {A : Option Addr} {bs : List Nat} {c : Nat} (h : RRdr w X t A bs c) (q : Nat) : RRdr (w.drewN q) X t A bs c := ⟨h.row, h.rd, h.le, h.cap, h.bit, h.ap, h.few⟩
theorem RRdr.set {w : World} {X t : Nat} {A : Option Addr} {bs : List Nat} {c : Nat} (h : RRdr w X t A bs c) (t' : Nat) (hle : t' ≤ bs.length) : RRdr (w.setCell ⟨X, 1, none⟩ (.int .i64 t')) X t' A bs c :=
  ⟨heap_setCell_same w X 1 _ _ (.int .i64 t') h.row, h.rd.fr ((Fr.refl (· = X) w).put 1 _) (fun k o e _ hk => h.ap k o e hk), hle, h.cap, h.bit, h.ap, h.few⟩
theorem Rd.sub {w : World} {A : Option Addr} {bs : List Nat} {c : Nat} (h : Rd w A (iv8 bs)) (hc : bs.length ≤ c) (t k : Nat) : Rd w (if c = t then A else A.map (·.add t)) (iv8 ((bs.drop t).take k)) := by
  have e : iv8 ((bs.drop t).take k) = ((iv8 bs).drop t).take k := by simp [iv8, List.map_take, List.map_drop]
  rw [e]
  exact (h.drop t c (by rw [iv8_length]; exact hc)).take k
/-- What Take tells. -/
def rtV (bs : List Nat) (t : Nat) (n : Int) (s : Bool) : Int := if tkE n (bs.length - t) = 0 then numZ ((bs.drop t).take n.toNat) s n.toNat else 0
def rtT (bs : List Nat) (t : Nat) (n : Int) : Nat := if tkE n (bs.length - t) = 0 then t + n.toNat else t

set_option maxHeartbeats 1000000 in
theorem RTake_ok (X t k : Nat) (A : Option Addr) (bs : List Nat) (c : Nat) (s : Bool) (w : World) (hr : RRdr w X t A bs c) (hk : k ≤ 48) (hf : t + k ≤ bs.length) :
    Calls Try.prog 34 #[.pointer (some ⟨X, 0, none⟩), .int .i64 k, .bool s] w fun e w' => e = .returned (.tuple #[.int .i64 (numZ ((bs.drop t).take k) s k), .int .i64 0]) ∧ RRdr w' X (t + k) A bs c ∧ Fr (· = X) w w' := by
  have hlen : ((bs.drop t).take k).length = k := by rw [List.length_take, List.length_drop]; omega
  have HN := Lib.hid (fun W h => Number_any ((bs.drop t).take k) s (fun b hb => hr.bit b (List.mem_of_mem_drop (List.mem_of_mem_take hb))) (by omega) (if c = t then A else A.map (·.add t)) (c - t) W h)
  rw [hlen] at HN
  generalize hZ : numZ ((bs.drop t).take k) s k = Z at *
  have h0 := hr.c0
  have h1 := hr.c1
  have hz := hr.fz 1
  have hfew := hr.few
  have hcap := hr.cap
  have HR := Lib.hid hr
  have HS := Lib.hid (fun W (hW : RRdr W X (t + k) A bs c) => Rd.sub hW.rd hcap t k)
  clear hr hZ hlen
  have e1 : IntKind.i64.wrap ((bs.length : Int) - t) = (bs.length : Int) - t := by rw [IntKind.wrap_i64]; omega
  have g1 : ¬ (k : Int) < 0 := by omega
  have g2 : ¬ (k : Int) > 48 := by omega
  have g3 : ¬ (k : Int) > (bs.length : Int) - t := by omega
  have HB : Hid (t + k ≤ bs.length ∧ k ≤ 48 ∧ bs.length ≤ 4000000 ∧ bs.length ≤ c) := ⟨hf, hk, hfew, hcap⟩
  clear hf
  go_enter Try.func34, Try.ntmps34
  go_wp2_with fail
  go_quiet (fail)
  clear e1
  go_wp2_with fail
  have hR2 : RRdr ((w.drewN nq).setCell ⟨X, 1, none⟩ (.int .i64 ((t : Int) + k))) X (t + k) A bs c := by
    have := (HR.out.drewN nq).set (t + k) HB.out.1
    rw [Int.natCast_add] at this
    exact this
  have hF2 : Fr (· = X) w ((w.drewN nq).setCell ⟨X, 1, none⟩ (.int .i64 ((t : Int) + k))) := Fr.trans (b := w.drewN nq) ⟨rfl, rfl, rfl, Nat.le_refl _, fun _ _ _ => rfl⟩ ((Fr.refl _ _).put 1 _)
  generalize (w.drewN nq).setCell ⟨X, 1, none⟩ (.int .i64 ((t : Int) + k)) = w2 at *
  have HN2 := Lib.hid (fun q => HN.out (w2.drewN q) ((HS.out w2 hR2).drewN q))
  have HR2 := Lib.hid hR2
  have HF2 := Lib.hid hF2
  have h2 := hR2.c0
  have h3 := hR2.c1
  clear h0 h1 hz HN HS HR hR2 hF2
  rw [Int.natCast_add] at h3
  generalize bs.length = n at *
  obtain ⟨A2, hA2⟩ : ∃ A2, (if c = t then A else Option.map (fun x => x.add t) A) = A2 := ⟨_, rfl⟩
  rw [hA2] at HN2
  have hb := HB.out
  have e2 : IntKind.i64.wrap (t : Int) = (t : Int) := by rw [IntKind.wrap_i64]; omega
  have e3 : (t : Int) + k - k = (t : Int) := by omega
  have e4 : (0 : Int) ≤ t := by omega
  have e5 : (t : Int) ≤ (t : Int) + k := by omega
  have e6 : (t : Int) + k ≤ c := by omega
  have e7 : (t + k) - t = k := by omega
  have e8 : ((t : Int) + k).toNat = t + k := by omega
  clear hb hfew hcap hk HB
  go_quiet ((go_at_call 38; exact Calls.quiet_of_same (HN2.out _)))
  clear e2 e3 e4 e5 e6 e7 e8
  go_wp2_with fail
  go_ret2
  exact ⟨rfl, HR2.out.drewN _, HF2.out.trans ⟨rfl, rfl, rfl, Nat.le_refl _, fun _ _ _ => rfl⟩⟩
set_option maxHeartbeats 400000 in
theorem RTake_no (X t : Nat) (A : Option Addr) (bs : List Nat) (c : Nat) (n : Int) (s : Bool) (w : World) (hr : RRdr w X t A bs c) (hE : tkE n (bs.length - t) ≠ 0) :
    Calls Try.prog 34 #[.pointer (some ⟨X, 0, none⟩), .int .i64 n, .bool s] w fun e w' => e = .returned (.tuple #[.int .i64 0, .int .i64 (tkE n (bs.length - t))]) ∧ RRdr w' X t A bs c ∧ Fr (· = X) w w' := by
  have h0 := hr.c0
  have h1 := hr.c1
  have hle := hr.le
  have hfew := hr.few
  have HR := Lib.hid hr
  clear hr
  by_cases g1 : n < 0
  · rw [tkE, if_pos (by omega)]
    clear hE
    generalize bs.length = m at *
    go_enter Try.func34, Try.ntmps34
    go_wp2_with fail
    go_ret2
    exact ⟨rfl, HR.out, Fr.refl _ _⟩
  by_cases g2 : n > 48
  · rw [tkE, if_pos (by omega)]
    clear hE
    generalize bs.length = m at *
    go_enter Try.func34, Try.ntmps34
    go_wp2_with fail
    go_ret2
    exact ⟨rfl, HR.out, Fr.refl _ _⟩
  have g3 : n > (bs.length : Int) - t := by
    rw [tkE, if_neg (by omega)] at hE
    split at hE
    · omega
    · exact absurd rfl hE
  rw [tkE, if_neg (by omega), if_pos (by omega)]
  clear hE
  have e1 : IntKind.i64.wrap ((bs.length : Int) - t) = (bs.length : Int) - t := by rw [IntKind.wrap_i64]; omega
  generalize bs.length = m at *
  go_enter Try.func34, Try.ntmps34
  go_wp2_with fail
  go_quiet (fail)
  clear e1
  go_wp2_with fail
  go_ret2
  exact ⟨rfl, HR.out.drewN _, ⟨rfl, rfl, rfl, Nat.le_refl _, fun _ _ _ => rfl⟩⟩
theorem RTake_any (X t : Nat) (A : Option Addr) (bs : List Nat) (c : Nat) (n : Int) (s : Bool) (w : World) (hr : RRdr w X t A bs c) :
    Calls Try.prog 34 #[.pointer (some ⟨X, 0, none⟩), .int .i64 n, .bool s] w fun e w' => e = .returned (.tuple #[.int .i64 (rtV bs t n s), .int .i64 (tkE n (bs.length - t))]) ∧ RRdr w' X (rtT bs t n) A bs c ∧ Fr (· = X) w w' := by
  by_cases hE : tkE n (bs.length - t) = 0
  · have hle := hr.le
    have h := hE
    unfold tkE at h
    split at h
    · cases h
    · rename_i h1
      split at h
      · cases h
      · rename_i h2
        obtain ⟨k, rfl⟩ : ∃ k : Nat, n = k := ⟨n.toNat, by omega⟩
        rw [rtV, rtT, if_pos hE, if_pos hE, hE, Int.toNat_natCast]
        exact RTake_ok X t k A bs c s w hr (by omega) (by omega)
  · rw [rtV, rtT, if_neg hE, if_neg hE]
    exact RTake_no X t A bs c n s w hr hE
end Go.Proofs.Ytfncmgojeaeihaa
