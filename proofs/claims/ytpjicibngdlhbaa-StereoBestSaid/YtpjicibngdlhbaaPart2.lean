/-
  stereo.Part, stereo.Join (mode 9): the calls.
-/
import Derived.Test.YtpjicibngdlhbaaPart
namespace Go.Proofs.Ytpjicibngdlhbaa
open Go.RowKit

set_option maxHeartbeats 400000 in
theorem part_no (mode : Int) (l m : List Int) (A B : Option Addr) (c d : Nat) (w : World) (hr : Rd w A (zv l)) (hs : Rd w B (zv m)) (hl : l.length < 1000000) (hm : m.length < 1000000) (hW : wrongR mode l m ≠ 0) :
    Calls Try.prog 8 #[.int .i64 mode, .slice A l.length c, .slice B m.length d] w fun e w' => e = .returned (.tuple #[.slice none 0 0, .slice none 0 0, .int .i64 (wrongR mode l m)]) ∧ Below w.heap.size w w' := by
  have Hr := Lib.hid hr; clear hr
  have Hs := Lib.hid hs; clear hs
  obtain ⟨f, hf⟩ : ∃ f, wrongR mode l m = f := ⟨_, rfl⟩
  have hf0 : (f != 0) = true := by rw [bne_iff_ne, ← hf]; exact hW
  rw [hf]
  have Hf := Lib.hid hf
  clear hf hW
  go_enter Try.func8, Try.ntmps8
  go_wp2_with fail
  refine (wrong_any mode l m A B c d _ _ ((Hr.out.alloc _).alloc _) ((Hs.out.alloc _).alloc _) hl hm (by go_simp) (by go_simp)).mono ?_
  rintro e w1 ⟨rfl, rfl⟩
  rw [Hf.out]
  go_wp2_with fail
  go_ret3
  exact ⟨rfl, by repeat (first | exact Below.refl _ _ | assumption | refine below_drewN ?_ _ | refine Below.drew ?_ | refine Below.alloc ?_ (Nat.le_refl _) _ | refine bal ?_ _ | refine bnext ?_ (by assumption))⟩
set_option maxHeartbeats 400000 in
theorem part_ok (mode : Int) (l m : List Int) (A B : Option Addr) (c d : Nat) (w : World) (hr : Rd w A (zv l)) (hs : Rd w B (zv m)) (hl : l.length < 1000000) (hm : m.length < 1000000) (hW : wrongR mode l m = 0) (hmode : True) :
    Calls Try.prog 8 #[.int .i64 mode, .slice A l.length c, .slice B m.length d] w fun e w' => ∃ A1 c1 A2 c2, e = .returned (.tuple #[.slice A1 l.length c1, .slice A2 l.length c2, .int .i64 0]) ∧
      Hid (Rd w' A1 (zv (List.zipWith (fun x y => (twoN mode x y).1) l m))) ∧ Hid (Rd w' A2 (zv (List.zipWith (fun x y => (twoN mode x y).2) l m))) ∧ Below w.heap.size w w' := by
  obtain ⟨hb, hlm, h1, h2⟩ := wrong_zero hW
  have Hr := Lib.hid hr; clear hr
  have Hs := Lib.hid hs; clear hs
  have HE := Lib.hid (fun A B c d g w h5 h6 h7 h8 => each_part mode l m hlm h1 h2 hmode A B c d g w h5 h6 h7 h8)
  have Hf := Lib.hid hW
  clear hW h1 h2 hb hmode hlm
  go_enter Try.func8, Try.ntmps8
  go_wp2_with fail
  refine (wrong_any mode l m A B c d _ _ ((Hr.out.alloc _).alloc _) ((Hs.out.alloc _).alloc _) hl hm (by go_simp) (by go_simp)).mono ?_
  rintro e w1 ⟨rfl, rfl⟩
  rw [Hf.out]
  go_wp2_with fail
  refine (HE.out A B c d _ _ ((Hr.out.alloc _).alloc _) ((Hs.out.alloc _).alloc _) hl (by go_simp)).mono ?_
  rintro e w2 ⟨A1, c1, A2, c2, rfl, HR1, HR2, hb2⟩
  have hb3 : Below w.heap.size w w2 := bnext (by repeat (first | exact Below.refl _ _ | assumption | refine below_drewN ?_ _ | refine Below.drew ?_ | refine Below.alloc ?_ (Nat.le_refl _) _ | refine bal ?_ _ | refine bnext ?_ (by assumption))) hb2
  go_wp2_with fail
  go_ret3
  exact ⟨_, _, _, _, rfl, HR1, HR2, hb3⟩

set_option maxHeartbeats 400000 in
theorem join_no (mode : Int) (l m : List Int) (A B : Option Addr) (c d : Nat) (w : World) (hr : Rd w A (zv l)) (hs : Rd w B (zv m)) (hl : l.length < 1000000) (hm : m.length < 1000000) (hW : wrongR mode l m ≠ 0) :
    Calls Try.prog 15 #[.int .i64 mode, .slice A l.length c, .slice B m.length d] w fun e w' => e = .returned (.tuple #[.slice none 0 0, .slice none 0 0, .int .i64 (wrongR mode l m)]) ∧ Below w.heap.size w w' := by
  have Hr := Lib.hid hr; clear hr
  have Hs := Lib.hid hs; clear hs
  obtain ⟨f, hf⟩ : ∃ f, wrongR mode l m = f := ⟨_, rfl⟩
  have hf0 : (f != 0) = true := by rw [bne_iff_ne, ← hf]; exact hW
  rw [hf]
  have Hf := Lib.hid hf
  clear hf hW
  go_enter Try.func15, Try.ntmps15
  go_wp2_with fail
  refine (wrong_any mode l m A B c d _ _ ((Hr.out.alloc _).alloc _) ((Hs.out.alloc _).alloc _) hl hm (by go_simp) (by go_simp)).mono ?_
  rintro e w1 ⟨rfl, rfl⟩
  rw [Hf.out]
  go_wp2_with fail
  go_ret3
  exact ⟨rfl, by repeat (first | exact Below.refl _ _ | assumption | refine below_drewN ?_ _ | refine Below.drew ?_ | refine Below.alloc ?_ (Nat.le_refl _) _ | refine bal ?_ _ | refine bnext ?_ (by assumption))⟩
set_option maxHeartbeats 400000 in
theorem join_ok (mode : Int) (l m : List Int) (A B : Option Addr) (c d : Nat) (w : World) (hr : Rd w A (zv l)) (hs : Rd w B (zv m)) (hl : l.length < 1000000) (hm : m.length < 1000000) (hW : wrongR mode l m = 0) (hmode : mode = 9) :
    Calls Try.prog 15 #[.int .i64 mode, .slice A l.length c, .slice B m.length d] w fun e w' => ∃ A1 c1 A2 c2, e = .returned (.tuple #[.slice A1 l.length c1, .slice A2 l.length c2, .int .i64 0]) ∧
      Hid (Rd w' A1 (zv (List.zipWith (fun x y => (sumN mode x y).1) l m))) ∧ Hid (Rd w' A2 (zv (List.zipWith (fun x y => (sumN mode x y).2) l m))) ∧ Below w.heap.size w w' := by
  obtain ⟨hb, hlm, h1, h2⟩ := wrong_zero hW
  have Hr := Lib.hid hr; clear hr
  have Hs := Lib.hid hs; clear hs
  have HE := Lib.hid (fun A B c d g w h5 h6 h7 h8 => each_join mode l m hlm h1 h2 hmode A B c d g w h5 h6 h7 h8)
  have Hf := Lib.hid hW
  clear hW h1 h2 hb hmode hlm
  go_enter Try.func15, Try.ntmps15
  go_wp2_with fail
  refine (wrong_any mode l m A B c d _ _ ((Hr.out.alloc _).alloc _) ((Hs.out.alloc _).alloc _) hl hm (by go_simp) (by go_simp)).mono ?_
  rintro e w1 ⟨rfl, rfl⟩
  rw [Hf.out]
  go_wp2_with fail
  refine (HE.out A B c d _ _ ((Hr.out.alloc _).alloc _) ((Hs.out.alloc _).alloc _) hl (by go_simp)).mono ?_
  rintro e w2 ⟨A1, c1, A2, c2, rfl, HR1, HR2, hb2⟩
  have hb3 : Below w.heap.size w w2 := bnext (by repeat (first | exact Below.refl _ _ | assumption | refine below_drewN ?_ _ | refine Below.drew ?_ | refine Below.alloc ?_ (Nat.le_refl _) _ | refine bal ?_ _ | refine bnext ?_ (by assumption))) hb2
  go_wp2_with fail
  go_ret3
  exact ⟨_, _, _, _, rfl, HR1, HR2, hb3⟩
end Go.Proofs.Ytpjicibngdlhbaa
