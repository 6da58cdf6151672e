/-
  A region that draws its order, all of whose operations only make memory (none writes to what was there): one proof for each operation, whatever the order.
-/
import Derived.Test.YticfmhmkgcdhgaaBo1
import Derived.Orders
set_option linter.unusedSimpArgs false
set_option linter.unusedVariables false
namespace Go.Proofs.Yticfmhmkgcdhgaa
open Go.RowKit

/-- What an operation waits for. -/
def deps (o : Oper) : List Nat := (o.after.toList.filter (Region.binds .any)).map (·.on)
/-- No operation writes slot t ahead of operation i. -/
def freshAt (l : List Oper) (i t : Nat) : Bool := l.all fun o => o.dst != some t || (deps o).contains i
/-- Each operation waits for earlier ones alone; no two write one slot; each slot is there. -/
def orderOk (l : List Oper) (size : Nat) : Bool :=
  (l.zipIdx.all fun (o, i) => (deps o).all (· < i)) && (l.zipIdx.all fun (o, i) => l.zipIdx.all fun (o', j) => i == j || o.dst.isNone || o.dst != o'.dst) && l.all fun o => match o.dst with | some d => decide (d < size) | none => true

def finA : List Oper → Nat → (Nat → Value) → Act → Act
  | [], _, _, a => a
  | o :: r, k, f, a => finA r (k + 1) f (a.put o.dst (f k))

def OpsAll (p : Nat → Oper → Prop) : Nat → List Oper → Prop
  | _, [] => True
  | k, o :: r => p k o ∧ OpsAll p (k + 1) r

theorem OpsAll.get {p : Nat → Oper → Prop} {o : Oper} (l : List Oper) : ∀ (k i : Nat), OpsAll p k l → l[i]? = some o → p (k + i) o := by
  induction l with
  | nil => intro k i _ e; simp at e
  | cons o' r ih =>
    intro k i h e
    cases i with
    | zero => simp at e; subst e; exact h.1
    | succ i =>
      have := ih (k + 1) i h.2 (by simpa using e)
      rwa [show k + 1 + i = k + (i + 1) from by omega] at this

theorem put_size (a : Act) (d : Option Tmp) (v : Value) : (a.put d v).tmps.size = a.tmps.size := by cases d <;> simp [Act.put]
theorem put_defers (a : Act) (d : Option Tmp) (v : Value) : (a.put d v).defers = a.defers := by cases d <;> rfl
theorem put_same (a : Act) (d : Tmp) (v : Value) (h : d < a.tmps.size) : (a.put (some d) v).tmps[d]? = some v := by simp [Act.put, h]
theorem put_other (a : Act) (d : Option Tmp) (t : Tmp) (v : Value) (h : d ≠ some t) : (a.put d v).tmps[t]? = a.tmps[t]? := by
  cases d with
  | none => rfl
  | some d =>
    have : d ≠ t := fun e => h (by rw [e])
    simp [Act.put, Array.getElem?_setIfInBounds, this]

section
variable {l : List Oper}
theorem finA_size : ∀ (l : List Oper) (k : Nat) (f : Nat → Value) (a : Act), (finA l k f a).tmps.size = a.tmps.size ∧ (finA l k f a).defers = a.defers
  | [], _, _, _ => ⟨rfl, rfl⟩
  | o :: r, k, f, a => by
    have := finA_size r (k + 1) f (a.put o.dst (f k))
    rw [put_size, put_defers] at this
    exact this
theorem finA_other : ∀ (l : List Oper) (k : Nat) (f : Nat → Value) (a : Act) (t : Tmp), (∀ o ∈ l, o.dst ≠ some t) → (finA l k f a).tmps[t]? = a.tmps[t]?
  | [], _, _, _, _, _ => rfl
  | o :: r, k, f, a, t, h => by
    show (finA r (k + 1) f (a.put o.dst (f k))).tmps[t]? = _
    rw [finA_other r _ f _ t (fun o' h' => h o' (List.mem_cons_of_mem _ h')), put_other _ _ _ _ (h o (List.mem_cons_self ..))]
theorem finA_at (o : Oper) (d : Tmp) (f : Nat → Value) (l : List Oper) : ∀ (k i : Nat) (a : Act), l[i]? = some o → o.dst = some d → d < a.tmps.size →
    (∀ (j : Nat) (o' : Oper), l[j]? = some o' → o'.dst = some d → j = i) → (finA l k f a).tmps[d]? = some (f (k + i)) := by
  induction l with
  | nil => intro k i a he; simp at he
  | cons o' r ih =>
    intro k i a he hd hs hu
    show (finA r (k + 1) f (a.put o'.dst (f k))).tmps[d]? = _
    cases i with
    | zero =>
      simp at he; subst he
      rw [finA_other r _ f _ d (fun o2 h2 hd2 => by
        obtain ⟨j, hj⟩ := List.mem_iff_getElem?.1 h2
        have := hu (j + 1) o2 (by simpa using hj) hd2
        omega), hd, put_same _ _ _ hs]
      rfl
    | succ i =>
      rw [ih (k + 1) i _ (by simpa using he) hd (by rw [put_size]; exact hs) (fun j o2 h2 hd2 => by
        have := hu (j + 1) o2 (by simpa using h2) hd2
        omega), show k + 1 + i = k + (i + 1) from by omega]

theorem okOrder_lt {size i : Nat} {o : Oper} (h : orderOk l size = true) (hi : l[i]? = some o) : ∀ j ∈ deps o, j < i := by
  intro j hj
  simp only [orderOk, Bool.and_eq_true, List.all_eq_true] at h
  have := h.1.1 (o, i) (List.mk_mem_zipIdx_iff_getElem?.2 hi)
  simp only [List.all_eq_true] at this
  exact of_decide_eq_true (this j hj)
theorem okOrder_one {size i j : Nat} {o o' : Oper} {d : Tmp} (h : orderOk l size = true) (hi : l[i]? = some o) (hj : l[j]? = some o') (hd : o.dst = some d) (hd' : o'.dst = some d) : i = j := by
  simp only [orderOk, Bool.and_eq_true, List.all_eq_true] at h
  have h1 := h.1.2 (o, i) (List.mk_mem_zipIdx_iff_getElem?.2 hi) (o', j) (List.mk_mem_zipIdx_iff_getElem?.2 hj)
  simpa [hd, hd'] using h1
theorem okOrder_in {size i : Nat} {o : Oper} {d : Tmp} (h : orderOk l size = true) (hi : l[i]? = some o) (hd : o.dst = some d) : d < size := by
  simp only [orderOk, Bool.and_eq_true, List.all_eq_true] at h
  have := h.2 o (List.mem_of_getElem? hi)
  simpa [hd] using this

/-- What holds when the operations of 'done' have been carried out, with the results f. -/
structure MInv (l : List Oper) (R : Nat → Value → World → Prop) (J : World → Prop) (a0 : Act) (done : Array Bool) (f : Nat → Value) (a : Act) (w : World) : Prop where
  j : J w
  size : a.tmps.size = a0.tmps.size
  defers : a.defers = a0.defers
  dsize : done.size = l.length
  r : ∀ i : Nat, done.getD i false = true → R i (f i) w
  at_ : ∀ (i : Nat) (o : Oper) (d : Tmp), done.getD i false = true → l[i]? = some o → o.dst = some d → a.tmps[d]? = some (f i)
  rest : ∀ t : Tmp, (∀ (i : Nat) (o : Oper), done.getD i false = true → l[i]? = some o → o.dst ≠ some t) → a.tmps[t]? = a0.tmps[t]?
  dep : ∀ (i : Nat) (o : Oper), done.getD i false = true → l[i]? = some o → ∀ j ∈ deps o, done.getD j false = true
end

/-- What is to be shown of operation i. -/
def opOk (P : Program) (l : List Oper) (J : World → Prop) (R : Nat → Value → World → Prop) (a0 : Act) (i : Nat) (o : Oper) : Prop :=
  ∀ (a : Act) (w : World), J w → (∀ t, freshAt l i t = true → a.tmps.getD t undef = a0.tmps.getD t undef) →
    (∀ (j : Nat) (oj : Oper) (d : Tmp), (deps o).contains j = true → l[j]? = some oj → oj.dst = some d → R j (a.tmps.getD d undef) w) →
    if Region.wanted o (yielded l.toArray a.tmps) = true then ∀ Q, o.wp P a w (fun a' w' => ∃ v, a' = a.put o.dst v ∧ R i v w' ∧ J w' ∧ Below w.heap.size w w') Q else R i undef w

theorem ready_spec {l : List Oper} {listed : Array Bool} {i : Nat} (h : i ∈ Region.ready .any l.toArray listed) (hs : listed.size = l.length) :
    ∃ o, l[i]? = some o ∧ listed.getD i false = false ∧ ∀ j ∈ deps o, listed.getD j false = true := by
  simp only [Region.ready, List.mem_filter, List.mem_range, Bool.and_eq_true, Bool.not_eq_true'] at h
  obtain ⟨hi, h1, h2⟩ := h
  have hi' : i < l.length := by simpa using hi
  refine ⟨l[i], List.getElem?_eq_getElem hi', ?_, ?_⟩
  · have hil : i < listed.size := by omega
    simp [Array.getD, hil] at h1 ⊢
    exact h1
  · intro j hj
    simp only [List.getElem?_toArray, List.getElem?_eq_getElem hi', Option.map_some, Option.getD_some] at h2
    simp only [deps, List.mem_map, List.mem_filter] at hj
    obtain ⟨e, ⟨he, hb⟩, rfl⟩ := hj
    have := Array.all_eq_true'.1 h2 e (Array.mem_toList_iff.1 he)
    simpa [hb] using this
theorem ready_nil {l : List Oper} {listed : Array Bool} {size : Nat} (hok : orderOk l size = true) (hs : listed.size = l.length) (h : Region.ready .any l.toArray listed = []) : ∀ i, i < l.length → listed.getD i false = true := by
  intro i
  induction i using Nat.strongRecOn with
  | _ i ih =>
    intro hi
    have hn : i ∉ Region.ready .any l.toArray listed := by rw [h]; simp
    simp only [Region.ready, List.mem_filter, List.mem_range, not_and] at hn
    have h1 := hn (by simpa using hi)
    have hil : i < listed.size := by omega
    rw [List.getElem?_toArray, List.getElem?_eq_getElem hi, Option.map_some, Option.getD_some] at h1
    have e1 : ∀ b, listed.getD i b = listed[i] := fun b => by simp [Array.getD, hil]
    rw [e1] at h1 ⊢
    cases hc : listed[i] with
    | true => rfl
    | false =>
      exfalso
      apply h1
      rw [hc, Bool.not_false, Bool.true_and, Array.all_eq_true']
      intro e he
      by_cases hb : Region.binds .any e = true
      · have hd : e.on ∈ deps l[i] := by
          simp only [deps, List.mem_map, List.mem_filter]
          exact ⟨e, ⟨Array.mem_toList_iff.2 he, hb⟩, rfl⟩
        have hlt := okOrder_lt hok (List.getElem?_eq_getElem hi) _ hd
        rw [ih _ hlt (by omega), Bool.or_true]
      · simp at hb
        simp [hb]

theorem countP_lt {α : Type} {p q : α → Bool} (l : List α) (h : ∀ x ∈ l, q x = true → p x = true) (x : α) (hx : x ∈ l) (hp : p x = true) (hq : q x = false) : l.countP q < l.countP p := by
  induction l with
  | nil => cases hx
  | cons y l ih =>
    have hle : l.countP q ≤ l.countP p := List.countP_mono_left (fun z hz => h z (List.mem_cons_of_mem _ hz))
    rw [List.countP_cons, List.countP_cons]
    rcases List.mem_cons.1 hx with rfl | hx'
    · simp [hp, hq]; omega
    · have := ih (fun z hz => h z (List.mem_cons_of_mem _ hz)) hx'
      have h1 := h y (List.mem_cons_self ..)
      by_cases c : q y = true
      · simp [c, h1 c]; omega
      · simp [c]; omega

/-- How many operations are left. -/
def left_ (n : Nat) (done : Array Bool) : Nat := (List.range n).countP fun i => !done.getD i false

theorem getD_set (done : Array Bool) (i j : Nat) (h : i < done.size) : (done.setIfInBounds i true).getD j false = if j = i then true else done.getD j false := by
  by_cases e : j = i
  · subst e; simp [Array.getD, h]
  · rw [if_neg e]
    by_cases hj : j < done.size
    · simp [Array.getD, hj, Array.getElem_setIfInBounds, Ne.symm e]
    · simp [Array.getD, hj]

theorem wpAny_mono {P : Program} {l : List Oper} {Q : Exit → Act → World → Prop} {J : World → Prop} {R : Nat → Value → World → Prop} {a0 : Act}
    (hst : ∀ i v w w', R i v w → Below w.heap.size w w' → R i v w') (hord : orderOk l a0.tmps.size = true) (hop : OpsAll (opOk P l J R a0) 0 l)
    (hQ : ∀ f w', J w' → (∀ i, i < l.length → R i (f i) w') → Q .normal (finA l 0 f a0) w') :
    ∀ (fuel : Nat) (done : Array Bool) (a : Act) (w : World) (f : Nat → Value), left_ l.length done ≤ fuel → MInv l R J a0 done f a w → wpAny P .any l.toArray Q fuel done a w := by
  have hend : ∀ (done : Array Bool) (a : Act) (w : World) (f : Nat → Value), MInv l R J a0 done f a w → (∀ i, i < l.length → done.getD i false = true) → Q .normal a w := by
    intro done a w f hI hall
    have hfs := finA_size l 0 f a0
    have e : a = finA l 0 f a0 := by
      have ht : a.tmps = (finA l 0 f a0).tmps := by
        refine Array.ext (by rw [hI.size, hfs.1]) fun t h1 h2 => ?_
        have hx : a.tmps[t]? = (finA l 0 f a0).tmps[t]? := by
          by_cases c : ∃ (i : Nat) (o : Oper), l[i]? = some o ∧ o.dst = some t
          · obtain ⟨i, o, ho, hd⟩ := c
            have hi : i < l.length := (List.getElem?_eq_some_iff.1 ho).1
            rw [hI.at_ i o t (hall i hi) ho hd, finA_at o t f l 0 i a0 ho hd (okOrder_in hord ho hd) (fun j o' h1 h2 => okOrder_one hord h1 ho h2 hd), Nat.zero_add]
          · have hno : ∀ (i : Nat) (o : Oper), l[i]? = some o → o.dst ≠ some t := fun i o ho hd => c ⟨i, o, ho, hd⟩
            rw [hI.rest t (fun i o _ ho => hno i o ho), finA_other l 0 f a0 t (fun o ho => by
              obtain ⟨i, hi⟩ := List.mem_iff_getElem?.1 ho
              exact hno i o hi)]
        rw [Array.getElem?_eq_getElem h1, Array.getElem?_eq_getElem h2] at hx
        exact Option.some.inj hx
      have hd : a.defers = (finA l 0 f a0).defers := by rw [hI.defers, hfs.2]
      cases a; cases h : finA l 0 f a0
      rw [h] at ht hd
      simp_all
    rw [e]
    exact hQ f w hI.j (fun i hi => hI.r i (hall i hi))
  intro fuel
  induction fuel with
  | zero =>
    intro done a w f hl hI
    have hall : ∀ i, i < l.length → done.getD i false = true := by
      intro i hi
      have h0 : left_ l.length done = 0 := by omega
      have := List.countP_eq_zero.1 h0 i (by simpa using hi)
      simpa using this
    refine ⟨?_, hend done a w f hI hall⟩
    rw [List.eq_nil_iff_forall_not_mem]
    intro i hi
    obtain ⟨o, ho, hn, _⟩ := ready_spec hi hI.dsize
    have := hall i (List.getElem?_eq_some_iff.1 ho).1
    rw [hn] at this
    cases this
  | succ fuel ih =>
    intro done a w f hl hI
    refine ⟨fun h => hend done a w f hI (ready_nil hord hI.dsize h), ?_⟩
    intro i hi
    obtain ⟨o, ho, hn, hdeps⟩ := ready_spec hi hI.dsize
    have hil : i < l.length := (List.getElem?_eq_some_iff.1 ho).1
    have hid : i < done.size := by rw [hI.dsize]; exact hil
    have hstep : ∀ (v : Value) (w' : World), R i v w' → J w' → Below w.heap.size w w' → wpAny P .any l.toArray Q fuel (done.setIfInBounds i true) (a.put o.dst v) w' := by
      intro v w' hR hJ hB
      refine ih _ _ w' (fun j => if j = i then v else f j) ?_ ?_
      · have : left_ l.length (done.setIfInBounds i true) < left_ l.length done := by
          refine countP_lt _ (fun x _ hx => ?_) i (by simpa using hil) (by simp [hn]) (by simp [getD_set _ _ _ hid])
          rw [getD_set _ _ _ hid] at hx
          split at hx
          · simp at hx
          · exact hx
        omega
      · refine ⟨hJ, by rw [put_size, hI.size], by rw [put_defers, hI.defers], by simp [hI.dsize], ?_, ?_, ?_, ?_⟩
        · intro j hj
          rw [getD_set _ _ _ hid] at hj
          by_cases e : j = i
          · subst e; simpa using hR
          · rw [if_neg e] at hj
            simpa [e] using hst j _ w w' (hI.r j hj) hB
        · intro j oj d hj hoj hd
          rw [getD_set _ _ _ hid] at hj
          by_cases e : j = i
          · subst e
            rw [ho] at hoj
            obtain rfl := Option.some.inj hoj
            rw [hd, put_same _ _ _ (by rw [hI.size]; exact okOrder_in hord ho hd)]
            simp
          · rw [if_neg e] at hj
            rw [put_other _ _ _ _ (fun h => e (okOrder_one hord hoj ho hd h)), hI.at_ j oj d hj hoj hd]
            simp [e]
        · intro t ht
          rw [put_other _ _ _ _ (ht i o (by rw [getD_set _ _ _ hid]; simp) ho)]
          refine hI.rest t fun j oj hj hoj => ht j oj ?_ hoj
          rw [getD_set _ _ _ hid]
          split
          · rfl
          · exact hj
        · intro j oj hj hoj k hk
          rw [getD_set _ _ _ hid] at hj ⊢
          by_cases e : j = i
          · subst e
            rw [ho] at hoj
            obtain rfl := Option.some.inj hoj
            split
            · rfl
            · exact hdeps k hk
          · rw [if_neg e] at hj
            split
            · rfl
            · exact hI.dep j oj hj hoj k hk
    have hO := OpsAll.get l 0 i hop ho
    rw [Nat.zero_add] at hO
    have h1 := hO a w hI.j ?_ ?_
    · have hoo : l.toArray[i]? = some o := by simpa using ho
      unfold wpOp
      rw [hoo]
      show if Region.wanted o (yielded l.toArray a.tmps) = true then _ else _
      split
      · rename_i hw
        rw [if_pos hw] at h1
        refine .inl (Oper.wp_mono ?_ (h1 Q))
        rintro a' w' ⟨v, rfl, hR, hJ, hB⟩
        exact hstep v w' hR hJ hB
      · rename_i hw
        rw [if_neg hw] at h1
        exact hstep undef w h1 hI.j (Below.refl _ _)
    · intro t ht
      have : a.tmps[t]? = a0.tmps[t]? := by
        refine hI.rest t fun j oj hj hoj hd => ?_
        simp only [freshAt, List.all_eq_true] at ht
        have h2 := ht oj (List.mem_of_getElem? hoj)
        simp only [hd, bne_self_eq_false, Bool.false_or] at h2
        have h3 : i ∈ deps oj := by simpa using h2
        have := hI.dep j oj hj hoj i h3
        rw [hn] at this
        cases this
      rw [Array.getD_eq_getD_getElem?, Array.getD_eq_getD_getElem?, this]
    · intro j oj d hj hoj hd
      have hj' : done.getD j false = true := hdeps j (by simpa using hj)
      have := hI.at_ j oj d hj' hoj hd
      rw [Array.getD_eq_getD_getElem?, this]
      exact hI.r j hj'

theorem wp_any_mono {P : Program} {l : List Oper} {Q : Exit → Act → World → Prop} {a0 : Act} {w0 : World}
    (J : World → Prop) (R : Nat → Value → World → Prop) (hJ : J w0.drew) (hst : ∀ i v w w', R i v w → Below w.heap.size w w' → R i v w')
    (hord : orderOk l a0.tmps.size = true) (hop : OpsAll (opOk P l J R a0) 0 l)
    (hQ : ∀ f w', J w' → (∀ i, i < l.length → R i (f i) w') → Q .normal (finA l 0 f a0) w') : wpAny P .any l.toArray Q l.toArray.size (Array.replicate l.toArray.size false) a0 w0.drew := by
  refine wpAny_mono hst hord hop hQ _ _ a0 _ (fun _ => undef) ?_ ?_
  · exact Nat.le_trans List.countP_le_length (by simp)
  · have h0 : ∀ i, (Array.replicate l.toArray.size false).getD i false = false := fun i => by simp [Array.getD]
    refine ⟨hJ, rfl, rfl, by simp, ?_, ?_, ?_, ?_⟩
    · intro i hi; rw [h0] at hi; cases hi
    · intro i o d hi; rw [h0] at hi; cases hi
    · intro t _; rfl
    · intro i o hi; rw [h0] at hi; cases hi

theorem wp_region_mono {P : Program} {id : Nat} {l : List Oper} {Q : Exit → Act → World → Prop} {a0 : Act} {w0 : World} (hm : P.follows .mixedOrders = true)
    (J : World → Prop) (R : Nat → Value → World → Prop) (hJ : J w0.drew) (hst : ∀ i v w w', R i v w → Below w.heap.size w w' → R i v w')
    (hord : orderOk l a0.tmps.size = true) (hop : OpsAll (opOk P l J R a0) 0 l)
    (hQ : ∀ f w', J w' → (∀ i, i < l.length → R i (f i) w') → Q .normal (finA l 0 f a0) w') : (Code.region id l.toArray true).wp P Q a0 w0 :=
  wp_region_any hm (wp_any_mono J R hJ hst hord hop hQ)

/-- What is told of an operation's result: its value, or a relation that new memory does not turn. -/
inductive Spec where
  | val (v : Value)
  | rel (p : Value → World → Prop) (h : ∀ v w w', p v w → Below w.heap.size w w' → p v w')
  | any
def Spec.holds : Spec → Value → World → Prop
  | .val u, v, _ => v = u
  | .rel p _, v, w => p v w
  | .any, _, _ => True
theorem Spec.stable (s : Spec) (v : Value) (w w' : World) (h : s.holds v w) (hb : Below w.heap.size w w') : s.holds v w' := by
  cases s with
  | val u => exact h
  | rel p hp => exact hp v w w' h hb
  | any => trivial
/-- A new row of cells. -/
def Spec.row (cs : Array Value) (t : TypeId) (n : Nat) : Spec :=
  .rel (fun v w => ∃ g, v = .slice (some ⟨g, 0, none⟩) n n ∧ w.heap[g]? = some (.cells cs t (0, 0))) fun _ w w' ⟨g, h1, h2⟩ hb => ⟨g, h1, by
    rw [hb.block g (Array.getElem?_eq_some_iff.1 h2).1]; exact h2⟩
def specR (specs : List Spec) (i : Nat) (v : Value) (w : World) : Prop := (specs.getD i .any).holds v w

theorem wp_region_specs {P : Program} {id : Nat} {l : List Oper} {Q : Exit → Act → World → Prop} {a0 : Act} {w0 : World} (specs : List Spec) (w : World) (hm : P.follows .mixedOrders = true)
    (hJ : Below w.heap.size w w0) {n : Nat} (hn : a0.tmps.size = n) (hord : orderOk l n = true) (hop : OpsAll (opOk P l (fun w' => Below w.heap.size w w') (specR specs) a0) 0 l)
    (hQ : ∀ f w', Below w.heap.size w w' → (∀ i, i < l.length → specR specs i (f i) w') → Q .normal (finA l 0 f a0) w') : (Code.region id l.toArray true).wp P Q a0 w0 :=
  wp_region_mono hm (fun w' => Below w.heap.size w w') (specR specs) hJ.drew (fun i v w w' h hb => Spec.stable (specs.getD i .any) v w w' h hb) (hn ▸ hord) hop hQ

theorem slot_bool {a : Act} {d : Tmp} {b : Bool} (hv : a.tmps.getD d undef = .bool b) : a.tmps[d]? = some (.bool b) := by
  rw [Array.getD_eq_getD_getElem?] at hv
  cases h : a.tmps[d]? with
  | none => rw [h] at hv; simp [undef] at hv
  | some v => rw [h] at hv; simp at hv; rw [hv]
theorem wanted_yes {l : List Oper} {a : Act} {o oj : Oper} {j : Nat} {d : Tmp} {b : Bool} (hg : o.guard = some (j, b)) (hj : l[j]? = some oj) (hd : oj.dst = some d) (hv : a.tmps.getD d undef = .bool b) : Region.wanted o (yielded l.toArray a.tmps) = true := by
  simp only [Region.wanted, hg, yielded]
  simp [hj, hd, slot_bool hv]
theorem wanted_no {l : List Oper} {a : Act} {o oj : Oper} {j : Nat} {d : Tmp} {b b' : Bool} (hg : o.guard = some (j, b)) (hj : l[j]? = some oj) (hd : oj.dst = some d) (hv : a.tmps.getD d undef = .bool b') (hne : b' ≠ b) : Region.wanted o (yielded l.toArray a.tmps) = false := by
  simp only [Region.wanted, hg, yielded]
  simp [hj, hd, slot_bool hv, hne]
theorem if_wanted {A : Prop} {B : Prop} {c : Bool} (h : c = true) (hA : A) : if c = true then A else B := by rw [if_pos h]; exact hA
theorem if_unwanted {A : Prop} {B : Prop} {c : Bool} (h : c = false) (hB : B) : if c = true then A else B := by rw [h]; exact hB
theorem slot' {a : Act} {t : Nat} {v : Value} (h : a.tmps.getD t undef = v) : a.tmps[t]?.getD undef = v := by rw [← Array.getD_eq_getD_getElem?]; exact h
theorem op_any {P : Program} {o : Oper} {a : Act} {w : World} {R : Value → World → Prop} {J : World → Prop} {Q : Exit → Act → World → Prop}
    (h : ∀ K : Act → World → Prop, (∀ v w', R v w' → J w' → Below w.heap.size w w' → K (a.put o.dst v) w') → o.wp P a w K Q) :
    o.wp P a w (fun a' w' => ∃ v, a' = a.put o.dst v ∧ R v w' ∧ J w' ∧ Below w.heap.size w w') Q :=
  h _ fun v _ h1 h2 h3 => ⟨v, rfl, h1, h2, h3⟩
/-- Slices in a block that is known whole. -/
theorem BSS.blk {w : World} {g : Nat} {vs : List Value} {t : TypeId} {ls : List (List UInt8)} {n : Nat} (h : w.heap[g]? = some (.cells vs.toArray t (0, 0))) (hn : n = ls.length) (hl : vs.length = ls.length)
    (hx : ∀ (j : Nat) (x : Value) (y : List UInt8), vs[j]? = some x → ls[j]? = some y → BS w x y) : BSS w (.slice (some ⟨g, 0, none⟩) n n) ls := by
  subst hn
  refine ⟨_, _, vs, rfl, Nat.le_refl _, ?_, hl, hx⟩
  intro j u hu
  refine ⟨g, 0, rfl, ?_⟩
  rw [cell_of_row _ g (0 + j) _ t (0, 0) h]
  simpa using hu
theorem BSS.blk1 {w : World} {g : Nat} {v : Value} {t : TypeId} {l : List UInt8} (h : w.heap[g]? = some (.cells #[v] t (0, 0))) (hv : BS w v l) : BSS w (.slice (some ⟨g, 0, none⟩) 1 1) [l] :=
  BSS.blk (vs := [v]) h rfl rfl fun j x y h1 h2 => by
    match j, h1, h2 with
    | 0, h1, h2 => simp at h1 h2; subst h1; subst h2; exact hv
end Go.Proofs.Yticfmhmkgcdhgaa
