/-
  sums.Meter in memory; sync.Once and the atomics, each a contract.
  sums.Meter: NewMeter, ready, Do.
  sums.Meter: its sum by the table, Add, Sum16, Many.
  sums.Meter: Sum16, Many.
  jetsamlaw02.awake: the chapter's examples hold.
-/
import Derived.Test.YtjfjkmbokiinbaaSm1
import Derived.Tactics2
import Derived.Defers
import Derived.Laws.Pointers
import Derived.Laws.LoneSync
import Derived.Laws.Tables
import Derived.Great.Ranges
import Derived.RegionTactic
import Derived.RegionCalls
import Derived.Deep.QuietTactic
import Derived.Deep.RegionWith
import Derived.BigRegion
import Derived.Deep.DeepCutAuto
set_option linter.unusedSimpArgs false
set_option linter.unusedVariables false
namespace Go.Proofs.Ytjfjkmbokiinbaa
open Go.RowKit

/-- A Meter: its table, its bytes and times, is its table made, its lock's word. -/
structure Mt (w : World) (M : Nat) (T : Nat → Nat) (b t d s : Int) : Prop where
  row : ∃ cs, w.heap[M]? = some (.cells cs 68 (0, 0)) ∧ cs.size = 261
  c0 : w.cell? ⟨M, 0, none⟩ = some (.int .u32 d)
  c1 : w.cell? ⟨M, 1, none⟩ = some (.int .i32 s)
  tb : ∀ x, x < 256 → w.cell? ⟨M, 3 + x, none⟩ = some (.int .i64 (T x : Nat))
  cb : w.cell? ⟨M, 259, none⟩ = some (.int .i64 b)
  ct : w.cell? ⟨M, 260, none⟩ = some (.int .i64 t)
theorem Mt.fz {w : World} {M : Nat} {T : Nat → Nat} {b t d s : Int} (h : Mt w M T b t d s) (i : Nat) : w.frozen? ⟨M, i, none⟩ = false := by
  obtain ⟨cs, h1, -⟩ := h.row
  exact frozen_of_row _ _ _ _ _ h1
theorem Mt.lt {w : World} {M : Nat} {T : Nat → Nat} {b t d s : Int} (h : Mt w M T b t d s) : M < w.heap.size := cell_lt h.c0
theorem Mt.fr {S : Nat → Prop} {w w' : World} {M : Nat} {T : Nat → Nat} {b t d s : Int} (h : Mt w M T b t d s) (f : Fr S w w') (hs : ¬ S M) : Mt w' M T b t d s := by
  obtain ⟨cs, h1, h2⟩ := h.row
  exact ⟨⟨cs, f.row h1 hs, h2⟩, f.cell h.c0 hs, f.cell h.c1 hs, fun x hx => f.cell (h.tb x hx) hs, f.cell h.cb hs, f.cell h.ct hs⟩
theorem Mt.below {w w' : World} {M : Nat} {T : Nat → Nat} {b t d s : Int} (h : Mt w M T b t d s) (f : Below w.heap.size w w') : Mt w' M T b t d s := h.fr (S := fun _ => False) (Fr.of f) (fun h => h)
theorem Mt.rowset {w : World} {M : Nat} {T : Nat → Nat} {b t d s : Int} (h : Mt w M T b t d s) (i : Nat) (v : Value) : ∃ cs, (w.setCell ⟨M, i, none⟩ v).heap[M]? = some (.cells cs 68 (0, 0)) ∧ cs.size = 261 := by
  obtain ⟨cs, h1, h2⟩ := h.row
  exact ⟨cs.setIfInBounds i v, heap_setCell_same w M i cs _ v h1, by simpa using h2⟩
theorem cell_oth {w : World} {M i j : Nat} (v : Value) {u : Value} (h : w.cell? ⟨M, j, none⟩ = some u) (hne : i ≠ j) : (w.setCell ⟨M, i, none⟩ v).cell? ⟨M, j, none⟩ = some u :=
  (World.cell?_setCell_other _ ⟨M, i, none⟩ ⟨M, j, none⟩ _ (fun e => hne (by injection e))).trans h
theorem Mt.lock {w : World} {M : Nat} {T : Nat → Nat} {b t d s : Int} (h : Mt w M T b t d s) (s' : Int) : Mt (w.setCell ⟨M, 1, none⟩ (.int .i32 s')) M T b t d s' :=
  ⟨h.rowset 1 _, cell_oth _ h.c0 (by decide), World.cell?_setCell_same _ _ _ h.c1, fun x hx => cell_oth _ (h.tb x hx) (by omega), cell_oth _ h.cb (by decide), cell_oth _ h.ct (by decide)⟩
theorem Mt.done {w : World} {M : Nat} {T : Nat → Nat} {b t d s : Int} (h : Mt w M T b t d s) (d' : Int) : Mt (w.setCell ⟨M, 0, none⟩ (.int .u32 d')) M T b t d' s :=
  ⟨h.rowset 0 _, World.cell?_setCell_same _ _ _ h.c0, cell_oth _ h.c1 (by decide), fun x hx => cell_oth _ (h.tb x hx) (by omega), cell_oth _ h.cb (by decide), cell_oth _ h.ct (by decide)⟩
theorem Mt.tell {w : World} {M : Nat} {T : Nat → Nat} {b t d s : Int} (h : Mt w M T b t d s) (i v : Nat) (hi : i < 256) (T' : Nat → Nat) (h1 : T' i = v) (h2 : ∀ j, j < 256 → j ≠ i → T' j = T j) : Mt (w.setCell ⟨M, 3 + i, none⟩ (.int .i64 (v : Nat))) M T' b t d s :=
  ⟨h.rowset _ _, cell_oth _ h.c0 (by omega), cell_oth _ h.c1 (by omega), fun x hx => by
    by_cases e : x = i
    · subst e; rw [h1]; exact World.cell?_setCell_same _ _ _ (h.tb x hx)
    · rw [h2 x hx e]; exact cell_oth _ (h.tb x hx) (by omega), cell_oth _ h.cb (by omega), cell_oth _ h.ct (by omega)⟩
theorem Mt.bytes {w : World} {M : Nat} {T : Nat → Nat} {b t d s : Int} (h : Mt w M T b t d s) (b' : Int) : Mt (w.setCell ⟨M, 259, none⟩ (.int .i64 b')) M T b' t d s :=
  ⟨h.rowset _ _, cell_oth _ h.c0 (by decide), cell_oth _ h.c1 (by decide), fun x hx => cell_oth _ (h.tb x hx) (by omega), World.cell?_setCell_same _ _ _ h.cb, cell_oth _ h.ct (by decide)⟩
theorem Mt.times {w : World} {M : Nat} {T : Nat → Nat} {b t d s : Int} (h : Mt w M T b t d s) (t' : Int) : Mt (w.setCell ⟨M, 260, none⟩ (.int .i64 t')) M T b t' d s :=
  ⟨h.rowset _ _, cell_oth _ h.c0 (by decide), cell_oth _ h.c1 (by decide), fun x hx => cell_oth _ (h.tb x hx) (by omega), cell_oth _ h.cb (by decide), World.cell?_setCell_same _ _ _ h.ct⟩

theorem disable (w : World) : (callFunc 45 #[]).run Try.prog w = .ok (.value (.tuple #[])) w := run_call_mark0 Try.func45 (by kernel_rfl) (by kernel_rfl) (by kernel_rfl) .disable (by kernel_rfl) w
theorem enable (w : World) : (callFunc 47 #[]).run Try.prog w = .ok (.value (.tuple #[])) w := run_call_mark0 Try.func47 (by kernel_rfl) (by kernel_rfl) (by kernel_rfl) .enable (by kernel_rfl) w
theorem acquire (a : Addr) (w : World) : (callFunc 48 #[.pointer (some a)]).run Try.prog w = .ok (.value (.tuple #[])) w := run_call_marked Try.func48 (by kernel_rfl) (by kernel_rfl) (by kernel_rfl) .acquire (by kernel_rfl) a w
theorem releaseMerge (a : Addr) (w : World) : (callFunc 50 #[.pointer (some a)]).run Try.prog w = .ok (.value (.tuple #[])) w := run_call_marked Try.func50 (by kernel_rfl) (by kernel_rfl) (by kernel_rfl) .releaseMerge (by kernel_rfl) a w

/-- '(*sync/atomic.Bool).Store(true)', entered as a deferred call. -/
theorem store_deferred (a : Addr) (x : Value) (u : FrameMode) (w : World) (hc : w.cell? a = some x) (hz : w.frozen? a = false) :
    CallsD Try.prog 40 #[.pointer (some a), .bool true] u w fun e u' w' => u' = u ∧ (e = .returned (.tuple #[]) ∧ w' = w.drew.setCell a (.int .u32 1)) := by
  have hc' : w.drew.cell? a = some x := by go_simp
  have hz' : w.drew.frozen? a = false := by go_simp
  have hst := run_call_store (P := Try.prog) Try.func43 (by kernel_rfl) (by kernel_rfl) (by kernel_rfl) (by kernel_rfl) (k := .u32) (y := 1) hc' hz'
  go_enter_d Try.func40, Try.ntmps40
  go_wp2
  go_region_calls
  all_goals (go_end0; exact ⟨rfl, rfl⟩)
/-- '(*sync.Mutex).Unlock', entered as a deferred call, the lock held and nobody waiting. -/
theorem unlock_deferred (a : Addr) (u : FrameMode) (w : World) (hc : w.cell? a = some (.int .i32 1)) (hz : w.frozen? a = false) :
    CallsD Try.prog 39 #[.pointer (some a)] u w fun e u' w' => u' = u ∧ (e = .returned (.tuple #[]) ∧ w' = w.setCell a (.int .i32 0)) := by
  have hd := disable
  have he := enable
  have hr := releaseMerge
  have hadd := run_call_add (P := Try.prog) Try.func51 (by kernel_rfl) (by kernel_rfl) (by kernel_rfl) .i32 (by kernel_rfl) (y := -1) (s := 0) hc hz (by simp [go_sem]; rfl)
  have hcv := run_convert_to_unsafe (P := Try.prog) (src := 84) (dst := 88) Try.underlying84 Try.underlying88 (by kernel_rfl) hc
  go_enter_d Try.func39, Try.ntmps39
  go_wp2
  go_end0
  go_wp2
  go_end0
  exact ⟨rfl, rfl⟩
/-- '(*sync.Mutex).Lock', the lock free. -/
theorem lock_free (a : Addr) (w : World) (hc : w.cell? a = some (.int .i32 0)) (hz : w.frozen? a = false) :
    Calls Try.prog 38 #[.pointer (some a)] w fun e w' => e = .returned (.tuple #[]) ∧ w' = w.setCell a (.int .i32 1) := by
  have hd := disable
  have he := enable
  have ha := acquire
  have hcas := run_call_cas_hit (P := Try.prog) Try.func46 (by kernel_rfl) (by kernel_rfl) (by kernel_rfl) .i32 (by kernel_rfl) (y := 1) hc hz
  have hc' : (w.setCell a (.int .i32 1)).cell? a = some (.int .i32 1) := World.cell?_setCell_same w a _ hc
  have hcv := run_convert_to_unsafe (P := Try.prog) (src := 84) (dst := 88) Try.underlying84 Try.underlying88 (by kernel_rfl) hc'
  go_enter Try.func38, Try.ntmps38
  go_wp2
  first | go_end0 | (simp only [Exit.inBlock, Exit.then]; refine bodyPost_ret (results_none rfl _ _ _) rfl ?_) | refine bodyPost_ret (results_none rfl _ _ _) rfl ?_
  go_wp2
  go_end0
  exact ⟨rfl, rfl⟩
/-- '(*sync/atomic.Int64).Add'. -/
theorem Add_any (a : Addr) (b n : Int) (w : World) (hc : w.cell? a = some (.int .i64 b)) (hz : w.frozen? a = false) (h0 : 0 ≤ b + n) (h1 : b + n < 9223372036854775808) :
    Calls Try.prog 29 #[.pointer (some a), .int .i64 n] w fun e w' => (∃ v, e = .returned v) ∧ w' = w.setCell a (.int .i64 (b + n)) := by
  have hw : IntKind.i64.wrap (b + n) = b + n := IntWalk.i64_in _ (by omega)
  have hadd := run_call_add (P := Try.prog) Try.func35 (by kernel_rfl) (by kernel_rfl) (by kernel_rfl) .i64 (by kernel_rfl) (y := n) (s := b + n) hc hz (by simp [go_sem, hw])
  clear hw
  go_enter Try.func29, Try.ntmps29
  go_wp2
  go_ret
  exact ⟨⟨_, rfl⟩, rfl⟩
/-- '(*sync/atomic.Int64).Load'. -/
theorem Load_any (a : Addr) (b : Int) (w : World) (hc : w.cell? a = some (.int .i64 b)) :
    Calls Try.prog 31 #[.pointer (some a)] w fun e w' => e = .returned (.int .i64 b) ∧ w' = w := by
  have hl := run_call_load (P := Try.prog) Try.func36 (by kernel_rfl) (by kernel_rfl) (by kernel_rfl) .i64 (by kernel_rfl) hc
  go_enter Try.func31, Try.ntmps31
  go_wp2
  go_ret
  exact ⟨rfl, rfl⟩
def zM : List Value := .int .u32 0 :: .int .i32 0 :: .int .u32 0 :: List.replicate 258 (.int .i64 0)
theorem built_meter : Try.prog.built 68 [] = some zM.toArray := by kernel_rfl
end Go.Proofs.Ytjfjkmbokiinbaa

namespace Go.Proofs.Ytjfjkmbokiinbaa
open Go.RowKit

theorem NewMeter_any (w : World) : Calls Try.prog 17 #[] w fun e w' => e = .returned (.pointer (some ⟨w.heap.size, 0, none⟩)) ∧ Mt w' w.heap.size (fun _ => 0) 0 0 0 0 ∧ Below w.heap.size w w' := by
  have hM : Hid (Mt (w.alloc (.cells zM.toArray 68)) w.heap.size (fun _ => 0) 0 0 0 0) := by
    have h := heap_alloc_last w (.cells zM.toArray 68)
    have hc : ∀ i, (w.alloc (.cells zM.toArray 68)).cell? ⟨w.heap.size, i, none⟩ = zM[i]? := fun i => by rw [cell_of_row _ _ i _ _ _ h]; simp
    refine ⟨⟨_, h, by kernel_rfl⟩, by rw [hc]; rfl, by rw [hc]; rfl, fun x hx => ?_, by rw [hc]; kernel_rfl, by rw [hc]; kernel_rfl⟩
    rw [hc, show 3 + x = x + 1 + 1 + 1 from by omega]
    simp only [zM, List.getElem?_cons_succ]
    rw [List.getElem?_replicate, if_pos (by omega)]
    rfl
  have hb : Hid (Below w.heap.size w (w.alloc (.cells zM.toArray 68))) := bal (Below.refl _ _) _
  have hbt := built_meter
  generalize zM.toArray = Z at *
  have HBT := Lib.hid hbt
  clear hbt
  go_enter Try.func17, Try.ntmps17
  go_upto_region 1 with fail
  apply wp_region_lit
  have e : ∀ l, l = [] → (Try.prog.built 68 l).getD #[] = Z := by rintro _ rfl; rw [HBT.out]; rfl
  have e2 : ∀ l, l = [] → (Try.prog.built 68 l).isSome = true := by rintro _ rfl; rw [HBT.out]; rfl
  refine wpList_build rfl 68 #[] rfl (e2 _ (by simp)) ?_
  rw [e _ (by simp)]
  refine Great.wpList_boxTo rfl 68 _ rfl _ rfl w.heap.size rfl Z rfl ?_
  clear e e2
  generalize w.alloc (.cells Z 68) = w1 at *
  go_wp2_with fail
  go_ret
  exact ⟨rfl, hM.out, hb.out⟩

/-- The table behind so many rounds of ready. -/
def tabT (T : Nat → Nat) (k : Nat) (x : Nat) : Nat := if x < k then one16 x else T x
set_option maxRecDepth 100000 in
set_option maxHeartbeats 1600000 in
theorem ready_any (M : Nat) (T : Nat → Nat) (b t d s : Int) (w : World) (H : Mt w M T b t d s) :
    Calls Try.prog 28 #[.pointer (some ⟨M, 0, none⟩)] w fun e w' => e = .returned (.tuple #[]) ∧ Mt w' M (tabT T 256) b t d s ∧ Fr (· = M) w w' := by
  have H0 : Hid (Mt w M (tabT T 0) b t d s) := by
    have e : tabT T 0 = T := by funext x; simp [tabT]
    rw [e]; exact H
  clear H
  go_enter Try.func28, Try.ntmps28
  go_wp2_with fail
  go_loopw [3] (fun i wr => ∃ k : Nat, k ≤ 256 ∧ i = .int .i64 k ∧ Hid (Mt wr M (tabT T k) b t d s) ∧ Hid (Fr (· = M) w wr)) (fun i _ => 256 - (intOf i).toNat)
  case atStart => exact ⟨0, by omega, rfl, H0, Fr.refl _ _⟩
  case round =>
    obtain ⟨k, hk, rfl, HM, HF⟩ := hrel
    by_cases hkk : k < 256
    · have hk2 : (k : Int) < 256 := by omega
      have Hs := Lib.hid (fun W => sixteen_any W)
      have Ho := Lib.hid (fun W => one16_any k hkk W)
      have hfz := HM.out.fz (3 + k)
      have hcell := HM.out.tb k hkk
      have hlt := HM.out.lt
      have HB := Lib.hid (fun W (hb : Below wr.heap.size wr W) => And.intro (HM.out.below hb) (HM.out.below hb))
      go_upto_region 3 with fail
      go_region_with (first | (go_at_call 25; refine (Hs.out _).mono ?_; rintro e wx ⟨rfl, hbx⟩) | (go_at_call 22; refine (Ho.out _).mono ?_; rintro z w2 ⟨rfl, hby⟩; have HM2 : Hid (Mt w2 M (tabT T k) b t d s) := Mt.below HM.out (by repeat (first | exact Below.refl _ _ | assumption | refine below_drewN ?_ _ | refine Below.drew ?_ | refine Below.alloc ?_ (Nat.le_refl _) _ | refine bal ?_ _ | refine bnext ?_ (by assumption))); have HF2 : Hid (Fr (· = M) w w2) := HF.out.next (by repeat (first | exact Below.refl _ _ | assumption | refine below_drewN ?_ _ | refine Below.drew ?_ | refine Below.alloc ?_ (Nat.le_refl _) _ | refine bal ?_ _ | refine bnext ?_ (by assumption))); have hfz2 := HM2.out.fz (3 + k); have hcell2 := HM2.out.tb k hkk))
      go_wp2_with fail
      go_roundw
      case rel =>
        refine ⟨k + 1, by omega, by go_num, HM2.out.tell k (one16 k) hkk _ ?_ ?_, HF2.out.put _ _⟩
        · simp [tabT]
        · intro j _ hj
          unfold tabT
          by_cases h : j < k
          · rw [if_pos h, if_pos (by omega)]
          · rw [if_neg h, if_neg (by omega)]
      case measure => simp [intOf] <;> omega
    · obtain rfl : k = 256 := by omega
      go_wp2_with fail
      exact bodyPost_end (v := .tuple #[]) (by simp [results, Try.results28, go_sem]) rfl ⟨rfl, HM.out, HF.out⟩

set_option maxRecDepth 100000 in
set_option maxHeartbeats 1600000 in
/-- sync.Once's slow road: the table is made. -/
theorem slow_any (M : Nat) (T : Nat → Nat) (b t : Int) (w : World) (H : Mt w M T b t 0 0) :
    Calls Try.prog 34 #[.pointer (some ⟨M, 0, none⟩), .func (.func 28) #[.pointer (some ⟨M, 0, none⟩)] #[]] w fun e w' => e = .returned (.tuple #[]) ∧ Mt w' M (tabT T 256) b t 1 0 ∧ Fr (· = M) w w' := by
  have H1 := Lib.hid (H.lock 1)
  have F1 : Hid (Fr (· = M) w (w.setCell ⟨M, 1, none⟩ (.int .i32 1))) := (Fr.refl _ w).put 1 _
  have HL := Lib.hid (lock_free ⟨M, 1, none⟩ w H.c1 (H.fz 1))
  have hl := run_call_load (P := Try.prog) Try.func37 (by kernel_rfl) (by kernel_rfl) (by kernel_rfl) .u32 (by kernel_rfl) H1.out.c0
  have HR := Lib.hid (ready_any M T b t 0 1 _ H1.out)
  have hnot : ∀ (x : Bool) (w : World), (Op.unary .not (.bool x)).run Try.prog w = .ok (.bool (!x)) w := fun _ _ => rfl
  generalize w.setCell ⟨M, 1, none⟩ (.int .i32 1) = w1 at *
  clear H
  go_enter_defers Try.func34, Try.ntmps34
  go_wp2_with (go_at_call 38; refine HL.out.mono ?_; rintro e w' ⟨rfl, rfl⟩)
  go_wp2_with (first | (go_at_call 33; go_in) | (go_at_call 28; refine HR.out.mono ?_; rintro e w2 ⟨rfl, HM2, HF2⟩; have H2 := Lib.hid HM2; have F2 := Lib.hid HF2; clear HM2 HF2))
  have H3 := Lib.hid (Mt.below H2.out ((Below.refl _ _).drew) |>.done 1)
  have F3 : Hid (Fr (· = M) w (w2.drew.setCell ⟨M, 0, none⟩ (.int .u32 1))) := ((F1.out.trans F2.out).drew).put 0 _
  refine leaves_cons (f := 40) (args := #[.pointer (some ⟨M, 0, none⟩), .bool true]) (by simp) (by simp [go_sem]) ?_
  refine (store_deferred ⟨M, 0, none⟩ (.int .u32 0) .returning _ H2.out.c0 (H2.out.fz 0)).mono ?_
  rintro e u' w'' ⟨rfl, rfl, rfl⟩
  refine leaves_cons (f := 39) (args := #[.pointer (some ⟨M, 1, none⟩)]) (by simp [settle]) (by simp [go_sem]) ?_
  refine (unlock_deferred ⟨M, 1, none⟩ _ _ H3.out.c1 (H3.out.fz 1)).mono ?_
  rintro e u' w'' ⟨rfl, rfl, rfl⟩
  have H4 := H3.out.lock 0
  have F4 := F3.out.put 1 (.int .i32 0)
  refine ⟨.tuple #[], by simp [results, Try.results34, go_sem], rfl, H4, F4⟩

/-- '(*sync.Once).Do', not yet done. -/
theorem Do_first (M : Nat) (T : Nat → Nat) (b t : Int) (w : World) (H : Mt w M T b t 0 0) :
    Calls Try.prog 27 #[.pointer (some ⟨M, 0, none⟩), .func (.func 28) #[.pointer (some ⟨M, 0, none⟩)] #[]] w fun e w' => e = .returned (.tuple #[]) ∧ Mt w' M (tabT T 256) b t 1 0 ∧ Fr (· = M) w w' := by
  have hl := run_call_load (P := Try.prog) Try.func37 (by kernel_rfl) (by kernel_rfl) (by kernel_rfl) .u32 (by kernel_rfl) H.c0
  have hnot : ∀ (x : Bool) (w : World), (Op.unary .not (.bool x)).run Try.prog w = .ok (.bool (!x)) w := fun _ _ => rfl
  have HS := Lib.hid (slow_any M T b t w H)
  clear H
  go_enter Try.func27, Try.ntmps27
  go_wp2_with (first | (go_at_call 34; refine HS.out.mono ?_; rintro e w' ⟨rfl, H2, F2⟩) | (go_at_call 33; go_in))
  go_end0
  exact ⟨rfl, H2, F2⟩
/-- '(*sync.Once).Do', done. -/
theorem Do_done (M : Nat) (T : Nat → Nat) (b t : Int) (fv : Value) (w : World) (H : Mt w M T b t 1 0) :
    Calls Try.prog 27 #[.pointer (some ⟨M, 0, none⟩), fv] w fun e w' => e = .returned (.tuple #[]) ∧ w' = w := by
  have hl := run_call_load (P := Try.prog) Try.func37 (by kernel_rfl) (by kernel_rfl) (by kernel_rfl) .u32 (by kernel_rfl) H.c0
  have hnot : ∀ (x : Bool) (w : World), (Op.unary .not (.bool x)).run Try.prog w = .ok (.bool (!x)) w := fun _ _ => rfl
  clear H
  go_enter Try.func27, Try.ntmps27
  go_wp2
  go_end0
  exact ⟨rfl, rfl⟩
end Go.Proofs.Ytjfjkmbokiinbaa

namespace Go.Proofs.Ytjfjkmbokiinbaa
open Go.RowKit

theorem bdr {B : Nat} {a w : World} (h : Below B a w) (n : Nat) : Below B a (w.drewN n) := h.trans ⟨rfl, rfl, rfl, Nat.le_refl _, fun _ _ => rfl⟩
theorem told_any (P0 M : Nat) (T : Nat → Nat) (b t d s : Int) (x : Nat) (hx : x < 256) (W : World) (hp : W.cell? ⟨P0, 0, none⟩ = some (.pointer (some ⟨M, 0, none⟩))) (H : Mt W M T b t d s) :
    Calls Try.prog 30 #[.int .i64 x, .pointer (some ⟨P0, 0, none⟩)] W fun e w' => e = .returned (.int .i64 (T x : Nat)) ∧ Below W.heap.size W w' := by
  have hc := H.tb x hx
  have hx2 : (x : Int) < 256 := by omega
  clear H
  go_enter Try.func30, Try.ntmps30
  go_wp2_with fail
  go_ret
  exact ⟨rfl, Below.refl _ _⟩

set_option maxHeartbeats 800000 in
theorem ofT_any (P0 : Nat) (ls : List (List UInt8)) (A : Option Addr) (c : Nat) (w : World) (hv : BSS w (.slice A ls.length c) ls) (hlen : ls.length < 4611686018427387904) (hlens : ∀ l ∈ ls, l.length < 4611686018427387904)
    (HT : Hid (∀ W, Below w.heap.size w W → ∀ x : Nat, x < 256 → Calls Try.prog 30 #[.int .i64 x, .pointer (some ⟨P0, 0, none⟩)] W fun e w' => e = .returned (.int .i64 (one16 x)) ∧ Below W.heap.size W w')) :
    Calls Try.prog 21 #[.agg #[.int .i64 16, .int .i64 32773], .func (.func 30) #[] #[.pointer (some ⟨P0, 0, none⟩)], .slice A ls.length c] w fun e w' =>
      e = .returned (.int .i64 (crc16 0 ls.flatten)) ∧ Below w.heap.size w w' := by
  obtain ⟨A', c', vs, he, hc, hr, hl, hx⟩ := hv
  obtain ⟨rfl, -, rfl⟩ : A = A' ∧ True ∧ c = c' := by injection he with h1 h2 h3; exact ⟨h1, trivial, h3⟩
  have Hl := Lib.hid hl; clear hl he
  have Hx := Lib.hid hx; clear hx
  have Hr := Lib.hid hr; clear hr
  have Hls := Lib.hid hlens; clear hlens
  go_enter Try.func21, Try.ntmps21
  go_wp2_with fail
  go_quiet (fail)
  go_wp2_with fail
  go_loopw [7, 19] (fun s i wr => ∃ j : Nat, j ≤ ls.length ∧ i = .int .i64 j ∧ s = .int .i64 (crc16 0 (ls.take j).flatten) ∧ Below w.heap.size w wr ∧ wr.cell? ⟨w.heap.size, 0, none⟩ = some (.int .i64 16) ∧ wr.cell? ⟨w.heap.size, 1, none⟩ = some (.int .i64 32773) ∧ w.heap.size < wr.heap.size) (fun _ i _ => ls.length - (intOf i).toNat)
  case atStart => exact ⟨0, by omega, rfl, by simp [crc16], by first | exact Below.refl _ _ | exact bdr (bal (Below.refl _ _) _) _, by go_simp, by go_simp, by simp⟩
  case round =>
    obtain ⟨j, hj, rfl, rfl, hb, hc0, hc1, hsz⟩ := hrel
    by_cases hjj : j < ls.length
    · have hjv : j < vs.length := by have := Hl.out; omega
      obtain ⟨b, o, rfl, hcell⟩ := (Hr.out.below hb).at_ hjv
      obtain ⟨A1, c1, e1, hc1', hr1⟩ := (Hx.out j vs[j] ls[j] (List.getElem?_eq_getElem hjv) (List.getElem?_eq_getElem hjj)).below hb
      rw [e1] at hcell
      have hl1 := Hls.out _ (List.getElem_mem hjj)
      have Ht : Hid (crc16 0 (ls.take (j + 1)).flatten = crc16 (crc16 0 (ls.take j).flatten) ls[j]) := by
        show _ = _
        rw [List.take_succ_eq_append_getElem hjj, List.flatten_append]
        simp only [List.flatten_cons, List.flatten_nil, List.append_nil]
        exact crc16_append _ _ _
      have hlt0 := crc16_lt 0 (by omega) (ls.take j).flatten
      generalize hq : crc16 0 (ls.take j).flatten = q at *
      clear hq e1
      generalize hlb : ls[j] = lb at *
      clear hlb
      have Hr1 := Lib.hid hr1; clear hr1
      obtain ⟨wo, rfl⟩ : ∃ wo : World, wo = wr := ⟨_, rfl⟩
      go_wp2_with fail
      go_loopw [7, 25] (fun s i wr => ∃ k : Nat, k ≤ lb.length ∧ i = .int .i64 k ∧ s = .int .i64 (crc16 q (lb.take k)) ∧ Below wo.heap.size wo wr ∧ wr.cell? ⟨w.heap.size, 0, none⟩ = some (.int .i64 16) ∧ wr.cell? ⟨w.heap.size, 1, none⟩ = some (.int .i64 32773)) (fun _ i _ => lb.length - (intOf i).toNat)
      case atStart => exact ⟨0, by omega, rfl, by simp [crc16], by first | exact Below.refl _ _ | exact bdr (bal (Below.refl _ _) _) _, hc0, hc1⟩
      case round =>
        obtain ⟨k, hk, rfl, rfl, hb2, hd0, hd1⟩ := hrel
        by_cases hkk : k < lb.length
        · obtain ⟨b2, o2, rfl, hcell2⟩ := (Hr1.out.below hb2).at_ (j := k) (by rw [bv_length]; exact hkk)
          have e2 := bv_get lb k hkk
          rw [List.getElem?_eq_getElem (by rw [bv_length]; exact hkk)] at e2
          rw [Option.some.inj e2] at hcell2
          clear e2
          have Ht2 : Hid (crc16 q (lb.take (k + 1)) = nxt16 (crc16 q (lb.take k)) lb[k].toNat) := by
            show _ = _
            rw [List.take_succ_eq_append_getElem hkk]; exact crc16_snoc _ _ _
          have hlt2 := crc16_lt q hlt0 (lb.take k)
          have hx0 := lb[k].toNat_lt
          generalize hq2 : crc16 q (lb.take k) = s at *
          clear hq2
          generalize hx2 : lb[k].toNat = x at *
          clear hx2
          have hin : (s / 256) ^^^ x < 256 := Nat.xor_lt_two_pow (n := 8) (by omega) (by omega)
          have E1 : bits .xor .i64 ((s : Int) / 256) (x : Int) = (((s / 256) ^^^ x : Nat) : Int) := i64_xor_nat _ _ (Nat.lt_of_le_of_lt (m := s) (Nat.div_le_self _ _) (by omega)) (by omega)
          have E2 := i64_and_nat (s * 256) 65535 (by omega) (by omega)
          simp only [Int.natCast_mul, Int.cast_ofNat_Int] at E1 E2
          have HE1 := Lib.hid E1; clear E1
          have HE2 := Lib.hid E2; clear E2
          go_wp2_with fail
          rw [HE1.out]
          refine (HT.out _ (bnext hb hb2) _ hin).mono ?_
          rintro e w1 ⟨rfl, hb3⟩
          go_wp2_with fail
          go_roundw
          case rel =>
            refine ⟨k + 1, by omega, by go_num, ?_, bnext hb2 hb3, (hb3.cell (p := ⟨w.heap.size, 0, none⟩) (Nat.lt_of_lt_of_le hsz hb2.size)).trans hd0, (hb3.cell (p := ⟨w.heap.size, 1, none⟩) (Nat.lt_of_lt_of_le hsz hb2.size)).trans hd1⟩
            rw [Ht2.out]
            show Value.int .i64 _ = Value.int .i64 _
            rw [HE2.out, i64_xor_nat _ _ (Nat.lt_of_le_of_lt (Nat.and_le_right) (by omega)) (Nat.lt_trans (one16_lt _ hin) (by omega))]
            rfl
          case measure => simp [intOf] <;> omega
        · obtain rfl : k = lb.length := by omega
          go_wp2_with fail
          go_roundw
          case rel =>
            refine ⟨j + 1, by omega, by go_num, ?_, bnext hb hb2, hd0, hd1, Nat.lt_of_lt_of_le hsz hb2.size⟩
            rw [Ht.out, List.take_of_length_le (Nat.le_refl _)]
          case measure => simp [intOf] <;> omega
    · obtain rfl : j = ls.length := by omega
      go_wp2_with fail
      go_ret
      refine ⟨ret_int ?_, hb⟩
      rw [List.take_of_length_le (Nat.le_refl _)]
end Go.Proofs.Ytjfjkmbokiinbaa

namespace Go.Proofs.Ytjfjkmbokiinbaa
open Go.RowKit

theorem Mt.eqT {w : World} {M : Nat} {T T' : Nat → Nat} {b t d s : Int} (h : Mt w M T b t d s) (e : ∀ x, x < 256 → T x = T' x) : Mt w M T' b t d s :=
  ⟨h.row, h.c0, h.c1, fun x hx => by rw [← e x hx]; exact h.tb x hx, h.cb, h.ct⟩
/-- How many bytes there are. -/
def tot (ls : List (List UInt8)) : Nat := (ls.map List.length).sum
theorem tot_snoc (ls : List (List UInt8)) (j : Nat) (h : j < ls.length) : tot (ls.take (j + 1)) = tot (ls.take j) + ls[j].length := by
  rw [List.take_succ_eq_append_getElem h, tot, tot, List.map_append, List.sum_append]
  simp only [List.map_cons, List.map_nil, List.sum_cons, List.sum_nil, Nat.add_zero]
theorem tot_le (ls : List (List UInt8)) (B : Nat) (h : ∀ l ∈ ls, l.length ≤ B) : tot ls ≤ ls.length * B := by
  induction ls with
  | nil => simp [tot]
  | cons x l ih =>
    have h1 := h x (by simp)
    have h2 := ih (fun y hy => h y (by simp [hy]))
    have e : tot (x :: l) = x.length + tot l := by simp [tot]
    rw [e, List.length_cons, Nat.succ_mul]; omega
set_option maxRecDepth 100000 in
set_option maxHeartbeats 4000000 in
theorem MSum_any (M : Nat) (T : Nat → Nat) (b t d : Int) (ls : List (List UInt8)) (A : Option Addr) (c : Nat) (w0 w : World) (hv : BSS w0 (.slice A ls.length c) ls) (hlen : ls.length ≤ 20) (hlens : ∀ l ∈ ls, l.length ≤ 200) (hb0 : Below w0.heap.size w0 w) (hM : w0.heap.size ≤ M)
    (H : Mt w M T b t d 0) (hd : d = 0 ∨ d = 1 ∧ ∀ x, x < 256 → T x = one16 x) (h0 : 0 ≤ b) (h1 : b ≤ 1000000) (h2 : 0 ≤ t) (h3 : t ≤ 1000000) :
    Calls Try.prog 18 #[.pointer (some ⟨M, 0, none⟩), .slice A ls.length c] w fun e w' => e = .returned (.int .i64 (crc16 0 ls.flatten)) ∧ Mt w' M one16 (b + (tot ls : Nat)) (t + 1) 1 0 ∧ Below w0.heap.size w0 w' := by
  have HV := Lib.hid hv
  obtain ⟨A', c', vs, he, hc, hr, hl, hx⟩ := hv
  obtain ⟨rfl, -, rfl⟩ : A = A' ∧ True ∧ c = c' := by injection he with h1 h2 h3; exact ⟨h1, trivial, h3⟩
  have Hl := Lib.hid hl; clear hl he
  have Hx := Lib.hid hx; clear hx
  have Hr := Lib.hid hr; clear hr
  have Hls := Lib.hid hlens; clear hlens
  have Htot := Lib.hid (fun k => Nat.le_trans (tot_le (ls.take k) 200 (fun l hl => Hls.out l (List.mem_of_mem_take hl))) (Nat.mul_le_mul_right 200 (show (ls.take k).length ≤ 20 by rw [List.length_take]; omega)))
  have hmf : ∀ (fn : Fn) (first cap : Array Value) (w : World), (Instr.makeFunc fn first cap).run Try.prog w = .ok (.func fn first cap) w := fun _ _ _ _ => rfl
  obtain ⟨w1, hw1⟩ : ∃ w1, w.alloc (.cells #[.pointer (some ⟨M, 0, none⟩)] 38) = w1 := ⟨_, rfl⟩
  have hP1 : w1.cell? ⟨w.heap.size, 0, none⟩ = some (.pointer (some ⟨M, 0, none⟩)) := by rw [← hw1]; simp
  have hb1 : Below w0.heap.size w0 w1 := by rw [← hw1]; exact bal hb0 _
  have HM1 : Hid (Mt w1 M T b t d 0) := by rw [← hw1]; exact H.below (bal (Below.refl _ _) _)
  have hPM : ¬ w.heap.size = M := by have := H.lt; omega
  have HDo : Hid (Calls Try.prog 27 #[.pointer (some ⟨M, 0, none⟩), .func (.func 28) #[.pointer (some ⟨M, 0, none⟩)] #[]] w1.drew fun e w' => e = .returned (.tuple #[]) ∧ Mt w' M one16 b t 1 0 ∧ Fr (· = M) w1 w') := by
    have HMd : Mt w1.drew M T b t d 0 := HM1.out.below ((Below.refl _ _).drew)
    have hF : Fr (· = M) w1 w1.drew := (Fr.refl _ _).drew
    rcases hd with rfl | ⟨rfl, ht⟩
    · refine (Do_first M T b t _ HMd).mono ?_
      rintro e w' ⟨rfl, h2, h3⟩
      exact ⟨rfl, h2.eqT (fun x hx => by simp [tabT, hx]), hF.trans h3⟩
    · refine (Do_done M T b t _ _ HMd).mono ?_
      rintro e w' ⟨rfl, rfl⟩
      exact ⟨rfl, HMd.eqT ht, hF⟩
  have Hw1 := Lib.hid hw1
  have Hb1 := Lib.hid hb1
  clear H hw1 hd hb0 hb1
  go_enter Try.func18, Try.ntmps18
  go_upto_region 1 with fail
  rw [Hw1.out]
  go_upto_region 3 with fail
  go_cut [] (fun wx => Mt wx M one16 b t 1 0 ∧ Fr (· = M) w1 wx)
  case first =>
    go_region_with (go_at_call 27; refine HDo.out.mono ?_; rintro e w2 ⟨rfl, HM2, HF2⟩)
    all_goals (go_wp2_with fail; go_meet; exact ⟨HM2, HF2⟩)
  case rest =>
    obtain ⟨HM2, HF2⟩ := hcut
    have HMs := Lib.hid HM2
    have Hb2 : Hid (Below w0.heap.size w0 wc) := HF2.below Hb1.out (fun k hk => by omega)
    have HP2 : Hid (wc.cell? ⟨w.heap.size, 0, none⟩ = some (.pointer (some ⟨M, 0, none⟩))) := HF2.cell hP1 hPM
    have hP2 := HP2.out
    clear HM2 HF2 HDo HM1 hP1 Hw1 Hb1
    go_wp2_with fail
    go_loopw [17] (fun i wr => ∃ j : Nat, j ≤ ls.length ∧ i = .int .i64 j ∧ Hid (Mt wr M one16 (b + (tot (ls.take j) : Nat)) t 1 0) ∧ Hid (Below w0.heap.size w0 wr) ∧ Hid (wr.cell? ⟨w.heap.size, 0, none⟩ = some (.pointer (some ⟨M, 0, none⟩)))) (fun i _ => ls.length - (intOf i).toNat)
    case atStart => exact ⟨0, by omega, rfl, by simpa [tot] using HMs, Hb2, HP2⟩
    case round =>
      obtain ⟨j, hj, rfl, HMj, Hbj, HPj⟩ := hrel
      clear HMs Hb2 HP2 hP2
      have hPj := HPj.out
      by_cases hjj : j < ls.length
      · have hjv : j < vs.length := by have := Hl.out; omega
        obtain ⟨bb, o, rfl, hcell⟩ := (Hr.out.below Hbj.out).at_ hjv
        obtain ⟨A1, c1, e1, hc1', hr1⟩ := (Hx.out j vs[j] ls[j] (List.getElem?_eq_getElem hjv) (List.getElem?_eq_getElem hjj)).below Hbj.out
        rw [e1] at hcell
        have Hts := Lib.hid (tot_snoc ls j hjj)
        have h200 := Hls.out _ (List.getElem_mem hjj)
        have htj := Htot.out j
        clear e1 hr1 hc1'
        generalize ls[j] = lb at *
        generalize tot (ls.take j) = tj at *
        have HAd := Lib.hid (Add_any ⟨M, 259, none⟩ (b + (tj : Nat)) lb.length wr HMj.out.cb (HMj.out.fz 259) (by omega) (by omega))
        have HM3 := Lib.hid (HMj.out.bytes (b + (tj : Nat) + (lb.length : Nat)))
        have Hb3 : Hid (Below w0.heap.size w0 (wr.setCell ⟨M, 259, none⟩ (.int .i64 (b + (tj : Nat) + (lb.length : Nat))))) := Hbj.out.setCell (p := ⟨M, 259, none⟩) hM _
        have HP3 : Hid ((wr.setCell ⟨M, 259, none⟩ (.int .i64 (b + (tj : Nat) + (lb.length : Nat)))).cell? ⟨w.heap.size, 0, none⟩ = some (.pointer (some ⟨M, 0, none⟩))) :=
          (World.cell?_setCell_far _ _ _ _ (by simp; omega)).trans hPj
        generalize wr.setCell ⟨M, 259, none⟩ (.int .i64 (b + (tj : Nat) + (lb.length : Nat))) = w3 at *
        clear HMj Hbj HPj
        go_wp2_with fail
        refine HAd.out.mono ?_
        rintro e w4 ⟨⟨v, rfl⟩, rfl⟩
        clear HAd hPj
        have hP3 := HP3.out
        go_wp2_with fail
        go_roundw
        case rel =>
          refine ⟨j + 1, by omega, by go_num, ?_, Hb3, HP3⟩
          rw [Hts.out]
          have h := HM3
          rw [Int.add_assoc, ← Int.natCast_add] at h
          exact h
        case measure => simp [intOf] <;> omega
      · obtain rfl : j = ls.length := by omega
        rw [List.take_of_length_le (Nat.le_refl _)] at HMj
        have htj := Htot.out ls.length
        rw [List.take_of_length_le (Nat.le_refl _)] at htj
        have HAd := Lib.hid (Add_any ⟨M, 260, none⟩ t 1 wr HMj.out.ct (HMj.out.fz 260) (by omega) (by omega))
        have HM3 := Lib.hid (HMj.out.times (t + 1))
        have Hb3 : Hid (Below w0.heap.size w0 (wr.setCell ⟨M, 260, none⟩ (.int .i64 (t + 1)))) := Hbj.out.setCell (p := ⟨M, 260, none⟩) hM _
        have HP3 : Hid ((wr.setCell ⟨M, 260, none⟩ (.int .i64 (t + 1))).cell? ⟨w.heap.size, 0, none⟩ = some (.pointer (some ⟨M, 0, none⟩))) :=
          (World.cell?_setCell_far _ _ _ _ (by simp; omega)).trans hPj
        generalize wr.setCell ⟨M, 260, none⟩ (.int .i64 (t + 1)) = w3 at *
        clear HMj Hbj HPj
        go_wp2_with fail
        refine HAd.out.mono ?_
        rintro e w4 ⟨⟨v, rfl⟩, rfl⟩
        clear HAd hPj
        go_wp2_with fail
        refine (sixteen_any _).mono ?_
        rintro e w5 ⟨rfl, hb5⟩
        have HM5 := Lib.hid (HM3.out.below hb5)
        have Hb5 := Lib.hid (bnext Hb3.out hb5)
        have HP5 : Hid (w5.cell? ⟨w.heap.size, 0, none⟩ = some (.pointer (some ⟨M, 0, none⟩))) := (hb5.cell (p := ⟨w.heap.size, 0, none⟩) (cell_lt HP3.out)).trans HP3.out
        have HO := Lib.hid (ofT_any w.heap.size ls A c w5 (HV.out.below Hb5.out) (by omega) (fun l hl => by have := Hls.out l hl; omega) (fun W hW x hx => told_any w.heap.size M one16 _ _ 1 0 x hx W ((hW.cell (p := ⟨w.heap.size, 0, none⟩) (cell_lt HP5.out)).trans HP5.out) (HM5.out.below hW)))
        clear HM3 Hb3 HP3 hb5
        go_wp2_with fail
        refine HO.out.mono ?_
        rintro e w6 ⟨rfl, hb6⟩
        have HM6 := Lib.hid (HM5.out.below hb6)
        have Hb6 := Lib.hid (bnext Hb5.out hb6)
        clear hb6 HO
        go_wp2_with fail
        go_ret
        exact ⟨rfl, HM6.out, Hb6.out⟩
end Go.Proofs.Ytjfjkmbokiinbaa

namespace Go.Proofs.Ytjfjkmbokiinbaa
open Go.RowKit

set_option maxHeartbeats 800000 in
theorem awake_any (w : World) :
    Calls Try.prog 9 #[] w fun e w' => e = .returned (.bool true) ∧ Below w.heap.size w w' := by
  go_enter Try.func9, Try.ntmps9
  go_wp2_with fail
  refine (Sum8_any [[1]] _ _ _ ?hv1 (by decide) (by decide)).mono ?_
  case hv1 => exact BSS.one (BS.new w [1] #[.int .u8 1] _ 1 rfl rfl (by simp)) _ (by simp)
  rintro e w1 ⟨rfl, hb1⟩
  have h1 : Below w.heap.size w w1 := bnext (by repeat (first | exact Below.refl _ _ | assumption | refine below_drewN ?_ _ | refine Below.drew ?_ | refine Below.alloc ?_ (Nat.le_refl _) _ | refine bal ?_ _ | refine bnext ?_ (by assumption))) hb1
  rw [show crc8 0 [[1]].flatten = 7 from by decide +kernel]
  go_wp2_with fail
  refine (Sum8_any [[1], [7]] _ _ _ ?hv2 (by decide) (by decide)).mono ?_
  case hv2 => exact BSS.two ((BS.new w1 [1] #[.int .u8 1] _ 1 rfl rfl (by simp)).alloc _) (BS.new _ [7] #[.int .u8 7] _ 1 rfl rfl (by simp)) _ (by simp)
  rintro e w2 ⟨rfl, hb2⟩
  have h2 : Below w.heap.size w w2 := bnext (by repeat (first | exact Below.refl _ _ | assumption | refine below_drewN ?_ _ | refine Below.drew ?_ | refine Below.alloc ?_ (Nat.le_refl _) _ | refine bal ?_ _ | refine bnext ?_ (by assumption))) hb2
  rw [show crc8 0 [[1], [7]].flatten = 0 from by decide +kernel]
  go_wp2_with fail
  refine (Sum16_any [[1]] _ _ _ ?hv3 (by decide) (by decide)).mono ?_
  case hv3 => exact BSS.one (BS.new w2 [1] #[.int .u8 1] _ 1 rfl rfl (by simp)) _ (by simp)
  rintro e w3 ⟨rfl, hb3⟩
  have h3 : Below w.heap.size w w3 := bnext (by repeat (first | exact Below.refl _ _ | assumption | refine below_drewN ?_ _ | refine Below.drew ?_ | refine Below.alloc ?_ (Nat.le_refl _) _ | refine bal ?_ _ | refine bnext ?_ (by assumption))) hb3
  rw [show crc16 0 [[1]].flatten = 32773 from by decide +kernel]
  go_wp2_with fail
  go_ret
  exact ⟨rfl, h3⟩
end Go.Proofs.Ytjfjkmbokiinbaa
