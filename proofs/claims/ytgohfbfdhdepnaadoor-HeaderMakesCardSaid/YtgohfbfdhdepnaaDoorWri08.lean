/-
  header.Write: steps of a Writer.
-/
import Derived.Test.YtgohfbfdhdepnaaDoorChk08
import Derived.Test.YtgohfbfdhdepnaaDoorRefUn01
import Derived.Test.YtgohfbfdhdepnaaDoorSums2
import Derived.Test.YtgohfbfdhdepnaaDoorPut
namespace Go.Proofs.YtgohfbfdhdepnaaDoor
open Go.RowKit

/-- A Writer of the call's own. -/
structure St (w0 W : World) (R : Nat) (bs : List Nat) (k : Nat) : Prop where
  wtr : ∃ u, Wtr W R bs u
  blw : Below w0.heap.size w0 W
  le : w0.heap.size ≤ R
  len : bs.length ≤ k
theorem Put_st {w0 W : World} {R k : Nat} {bs : List Nat} (H : St w0 W R bs k) (n v : Nat) (hv : v < 2 ^ n) (hn : n ≤ 48) (hk : k ≤ 1000) :
    Calls Tryd.prog 25 #[.pointer (some ⟨R, 0, none⟩), .int .i64 n, .int .i64 v] W fun e w' => (∃ q, e = .returned q) ∧ St w0 w' R (bs ++ vb v n) (k + n) := by
  obtain ⟨u, hW⟩ := H.wtr
  have hl := H.len
  have e : ptE n v = 0 := by
    have hp : ((2 : Int) ^ n) = ((2 ^ n : Nat) : Int) := by simp
    rw [ptE, if_neg (by omega), if_neg]
    rw [Int.toNat_natCast, hp]
    intro h
    rcases h with h | h
    · omega
    · exact absurd (Int.ofNat_le.1 h) (Nat.not_le.2 hv)
  have hB : ptB bs n v = bs ++ vb v n := by rw [ptB, if_pos e, Int.toNat_natCast, Int.toNat_natCast]
  refine (Put_any R bs u n v W hW (by omega)).mono ?_
  rintro e w' ⟨rfl, u', h1, h2⟩
  rw [hB] at h1
  exact ⟨⟨_, rfl⟩, ⟨u', h1⟩, h2.below H.blw hW H.le, H.le, by rw [List.length_append, vb_length]; omega⟩
theorem Wtr.lt {w : World} {R : Nat} {bs : List Nat} {u : Value} (h : Wtr w R bs u) : ∀ k, WS R u k → k < w.heap.size := by
  intro k hk
  rcases hk with rfl | hk
  · exact (Array.getElem?_eq_some_iff.1 h.row).1
  · exact (h.own.lt k hk).2
theorem own_BS {w : World} {base n : Nat} {e : TypeId} {v : Value} {l : List UInt8} (h : w.ownsRow base e 1 v n (bv l)) (hn : n = l.length) : BS w v l := by
  obtain ⟨A, c, rfl, hc, hr⟩ := own_rd h
  subst hn
  exact ⟨A, c, rfl, hc, hr⟩
theorem Append_st {w0 W W1 : World} {R k : Nat} {bs : List Nat} (H : St w0 W R bs k) (hb : Below W.heap.size W W1) (l : List UInt8) (v : Value) (ho : W1.ownsRow W.heap.size 5 1 v l.length (bv l)) (hk : k ≤ 1000) (hl : l.length ≤ 100) :
    Calls Tryd.prog 28 #[.pointer (some ⟨R, 0, none⟩), .slice (some ⟨W1.heap.size, 0, none⟩) 1 1] (W1.alloc (.cells #[v] 28)) fun e w' => (∃ q, e = .returned q) ∧ St w0 w' R (bs ++ by8 l) (k + 8 * l.length) := by
  obtain ⟨u, hW⟩ := H.wtr
  have hlen := H.len
  have hb2 : Below W.heap.size W (W1.alloc (.cells #[v] 28)) := bal hb _
  have hW2 := hW.below hb2
  have ho2 := ho.alloc (.cells #[v] 28)
  have hlt := hW.lt
  have hsz := hb.size
  have hb3 : Below w0.heap.size w0 (W1.alloc (.cells #[v] 28)) := bnext H.blw hb2
  have hrow : (W1.alloc (.cells #[v] 28)).heap[W1.heap.size]? = some (.cells #[v] 28 (0, 0)) := heap_alloc_last W1 _
  refine (AppendW_any R bs u [l] [v] (some ⟨W1.heap.size, 0, none⟩) 1 _ hW2 rfl ?_ ?_ (by show 1 ≤ _; omega)).mono ?_
  · intro W' f
    refine ⟨rd_row (f.row hrow (fun h => by have := hlt _ h; omega)) _ rfl, ?_⟩
    have ho3 := own_fr ho2 f (fun k hk h => by have h1 := (ho.lt k hk).1; have h2 := hlt _ h; omega)
    intro j x y hx hy
    cases j with
    | zero =>
      simp at hx hy
      subst hx hy
      exact own_BS ho3 rfl
    | succ j => simp at hx
  · simp only [List.flatten_cons, List.flatten_nil, List.append_nil]; omega
  · rintro e w' ⟨rfl, u', h1, h2⟩
    simp only [List.flatten_cons, List.flatten_nil, List.append_nil] at h1
    exact ⟨⟨_, rfl⟩, ⟨u', h1⟩, h2.below hb3 hW2 H.le, H.le, by rw [List.length_append, by8_length]; omega⟩
theorem Bytes_st {w0 W : World} {R k : Nat} {bs : List Nat} (H : St w0 W R bs k) (hk : k ≤ 1000) :
    Calls Tryd.prog 30 #[.pointer (some ⟨R, 0, none⟩)] W fun e w' => ∃ v, e = .returned v ∧ Hid (w'.ownsRow W.heap.size 5 1 v (pkL bs).length (bv (pkL bs))) ∧ Below W.heap.size W w' := by
  obtain ⟨u, hW⟩ := H.wtr
  have hl := H.len
  obtain ⟨A, c, rfl, -, -, hr, hn⟩ := own_rd4 hW.own
  rw [← bv_pkL bs hW.bit] at hr
  rw [← pkL_length] at hn
  have HC := Lib.hid (clone_any (pkL bs) A c W hr (by rw [pkL_length]; omega) hn)
  have h1 := hW.c1
  rw [← pkL_length] at h1
  clear hW hr hn H
  go_enter Tryd.func30, Tryd.ntmps30
  go_wp2_with fail
  refine HC.out.mono ?_
  rintro e w1 ⟨v, rfl, Hown, hb⟩
  go_wp2_with fail
  go_ret
  exact ⟨_, rfl, Hown, hb⟩
theorem New_st {w0 W : World} (hb : Below w0.heap.size w0 W) :
    Calls Tryd.prog 24 #[] W fun e w' => ∃ R, e = .returned (.pointer (some ⟨R, 0, none⟩)) ∧ St w0 w' R [] 0 := by
  refine (NewWriter_any W).mono ?_
  rintro e w' ⟨R, rfl, h1, h2, h3, h4⟩
  exact ⟨R, rfl, ⟨_, h1⟩, bnext hb h4, Nat.le_trans hb.size h2, by simp⟩

/-- A number's code as bytes. -/
def codB (n : Nat) : List UInt8 := (C3.codeN n).map UInt8.ofNat
theorem codeN_lt (n : Nat) (hn : n < 68719476736) : ∀ x ∈ C3.codeN n, x < 256 := by
  intro x hx
  have hs := C3.szN_pos n
  by_cases h1 : C3.szN n = 1
  · unfold C3.codeN at hx
    rw [if_pos h1] at hx
    simp at hx
    subst hx
    have : x < 128 := by
      unfold C3.szN at h1; (repeat' split at h1) <;> omega
    omega
  · have hf := (C3.first_eq n hn h1).2
    unfold C3.codeN at hx
    rw [if_neg h1] at hx
    rcases List.mem_cons.1 hx with rfl | hx
    · exact hf
    · obtain ⟨j, -, rfl⟩ := List.mem_map.1 hx
      unfold C3.restV; omega
theorem bv_codB (n : Nat) (hn : n < 68719476736) : bv (codB n) = C3.nv8 (C3.codeN n) := by
  unfold bv codB C3.nv8
  rw [List.map_map]
  refine List.map_congr_left fun x hx => ?_
  show Value.int .u8 _ = Value.int .u8 _
  rw [UInt8.toNat_ofNat', Nat.mod_eq_of_lt (codeN_lt n hn x hx)]
theorem codB_length (n : Nat) : (codB n).length = C3.szN n := by simp [codB, C3.codeN_length]
theorem cput_any (n : Nat) (hn : n < 68719476736) (w : World) (ht : HTabs w) :
    Calls Tryd.prog 27 #[.int .i64 n] w fun e w' => ∃ v, e = .returned (.tuple #[v, .int .i64 0]) ∧ Hid (w'.ownsRow w.heap.size 5 1 v (codB n).length (bv (codB n))) ∧ Below w.heap.size w w' := by
  rw [codB_length, bv_codB n hn]
  exact C3.put_ok n hn w ht.lim
end Go.Proofs.YtgohfbfdhdepnaaDoor
