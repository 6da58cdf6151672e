/-
  jetsamlaw04.DigestSizes: parts.
-/
import Derived.Test.YtibhhebfenkeaaaDoorTells04
import Derived.Test.YtibhhebfenkeaaaDoorMono
namespace Go.Proofs.YtibhhebfenkeaaaDoor
open Go.RowKit

theorem allX_cons (x y : Int) (l r : List Int) : allX [x :: l, y :: r] = [x, y] ++ allX [l, r] := by
  unfold allX
  show (List.range (l.length + 1)).flatMap _ = _ ++ (List.range l.length).flatMap _
  rw [List.range_succ_eq_map, List.flatMap_cons, List.flatMap_map]
  congr 1
theorem allX_zip : ∀ (l r : List Int), l.length = r.length → allX [l, r] = (l.zip r).flatMap fun p => [p.1, p.2]
  | [], [], _ => rfl
  | [], _ :: _, h => by simp at h
  | _ :: _, [], h => by simp at h
  | x :: l, y :: r, h => by
    rw [allX_cons, allX_zip l r (by simpa using h)]
    simp
theorem allX_parts (l r : List Int) (a : Nat) (h : l.length = r.length) : allX [l, r] = allX [l.take a, r.take a] ++ allX [l.drop a, r.drop a] := by
  rw [allX_zip l r h, allX_zip _ _ (by simp [h]), allX_zip _ _ (by simp [h]), ← List.flatMap_append]
  congr 1
  have e1 : (l.zip r).take a = (l.take a).zip (r.take a) := by simp [List.zip, List.take_zipWith]
  have e2 : (l.zip r).drop a = (l.drop a).zip (r.drop a) := by simp [List.zip, List.drop_zipWith]
  rw [← e1, ← e2, List.take_append_drop]
theorem allX_two (l r : List Int) : (allX [l, r]).length = l.length * 2 := by
  rw [← smX_all, smX_length _ _ _ (by simp)]
  simp
theorem argX_two (d : Int) (l r : List Int) (h : l.length = r.length) : argX d [l, r] ↔ 4 ≤ d ∧ d ≤ 32 := by
  constructor
  · rintro ⟨h1, h2, -⟩; exact ⟨h1, h2⟩
  · rintro ⟨h1, h2⟩
    exact ⟨h1, h2, by simp, by simp, by simp [h]⟩
def SlP (b : Nat) (C : Prop) (X : List UInt8) : Spec := .rel (fun v w => ∃ A L c, v = .slice A L c ∧ (¬ C → L = 0) ∧ (C → L = X.length ∧ Tl w b (.slice A L c) (bv X))) (fun _ _ _ ⟨A, L, c, e, h1, h2⟩ hb => ⟨A, L, c, e, h1, fun h => ⟨(h2 h).1, (h2 h).2.below hb⟩⟩)
def KnP (C : Prop) : Spec := .rel (fun v _ => ∃ k : Int, v = .int .i64 k ∧ (k = 0 ↔ C)) (fun _ _ _ h _ => h)
def TuP (b : Nat) (C : Prop) (X : List UInt8) : Spec := .rel (fun v w => ∃ A L c, ∃ k : Int, v = .tuple #[.slice A L c, .int .i64 k] ∧ (k = 0 ↔ C) ∧ (¬ C → L = 0) ∧ (C → L = X.length ∧ Tl w b (.slice A L c) (bv X))) (fun _ _ _ ⟨A, L, c, k, e, hk, h1, h2⟩ hb => ⟨A, L, c, k, e, hk, h1, fun h => ⟨(h2 h).1, (h2 h).2.below hb⟩⟩)
/-- digest.Bytes of two channels of one length. -/
theorem DB2 (depth : Int) (x y : List Int) (q : Nat) (hx : x.length = q) (hy : y.length = q) (Ax Ay : Option Addr) (cx cy : Nat) (hcx : q ≤ cx) (hcy : q ≤ cy) (hq : q ≤ 40) (C : Prop) (X : List UInt8) (hC : ((4 ≤ depth ∧ depth ≤ 32) ∧ ∀ z ∈ allX [x, y], okX depth.toNat z) = C) (hX : outX depth.toNat (allX [x, y]) = X)
    (g : Nat) (W : World) (hrow : W.heap[g]? = some (.cells #[.slice Ax q cx, .slice Ay q cy] 32 (0, 0))) (hrx : Rd W Ax (zv x)) (hry : Rd W Ay (zv y)) :
    Calls Tryd.prog 11 #[.int .i64 depth, .slice (some ⟨g, 0, none⟩) 2 2] W fun e w' => ∃ (Av : Option Addr) (Lv cv : Nat) (k : Int), e = .returned (.tuple #[.slice Av Lv cv, .int .i64 k]) ∧ (k = 0 ↔ C) ∧ (¬ C → Lv = 0) ∧ (C → Lv = X.length ∧ Tl w' W.heap.size (.slice Av Lv cv) (bv X)) ∧ Below W.heap.size W w' := by
  subst hC hX
  have hZ : ZZ W (some ⟨g, 0, none⟩) [x, y] := by
    refine ⟨[.slice Ax q cx, .slice Ay q cy], rfl, fun j v hv => ⟨_, _, rfl, ?_⟩, fun j a b ha hb => ?_⟩
    · rw [cell_of_row _ _ _ _ _ _ hrow, Nat.zero_add]; simpa using hv
    · match j with
      | 0 =>
        simp at ha hb
        subst ha hb
        exact ⟨Ax, cx, by rw [hx], by omega, hrx⟩
      | 1 =>
        simp at ha hb
        subst ha hb
        exact ⟨Ay, cy, by rw [hy], by omega, hry⟩
  refine (DB_any depth [x, y] _ 2 _ hZ (by intro z hz; simp at hz; rcases hz with rfl | rfl <;> omega) (by simp)).mono ?_
  rw [argX_two depth x y (by omega)]
  rintro e w' ⟨hb, ⟨h1, rfl⟩ | ⟨h1, h2, rfl⟩ | ⟨h1, h2, v, rfl, hown⟩⟩
  · exact ⟨none, 0, 0, 1, rfl, ⟨(fun h => by cases h), fun h => absurd h.1 h1⟩, fun _ => rfl, (fun h => absurd h.1 h1), hb⟩
  · exact ⟨none, 0, 0, 10, rfl, ⟨(fun h => by cases h), fun h => absurd h.2 h2⟩, fun _ => rfl, (fun h => absurd h.2 h2), hb⟩
  · have hT := Tl.own hown.out
    obtain ⟨A, c, rfl, -⟩ := hT.form
    exact ⟨A, _, c, 0, rfl, ⟨fun _ => ⟨h1, h2⟩, fun _ => rfl⟩, fun h => absurd ⟨h1, h2⟩ h, fun _ => ⟨bv_length _, hT⟩, hb⟩
end Go.Proofs.YtibhhebfenkeaaaDoor
