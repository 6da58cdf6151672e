/-
  No cell of these rows narrows 'for every input' (looked for: loops, veiled, ifaces, maps, wideKeys, modest, calm, conditions, laid).
  DERIVED. THE GIVEN ROWS OF THIS SEAT. 6 by the template 'for every input the law returns true; each argument reads behind the call as it read before'; 0 by the template 'total and deterministic' (their statements: YtjfjkmbokiinbaaTotals.lean).
  GIVEN WITH THE SEED: the statements are not yours to turn. If you find one false, say at which input.
  Laid BY PROGRAM, IN A SANDBOX (cutbox-rows.mjs): the forced cells as the released guide's own fill.sh prints them over the translation 3515f1f0e31a6314… (all of the seat's roots in one cut). By AI agents, Wed Nov 11 2026. No macro, syntax, notation, axiom, sorry.
-/
import Derived.Test.YtjfjkmbokiinbaaChecked
import GoSem.Claim
import GoSem.ClaimJoined
import GoSem.ClaimMapViews
import Derived.JoinedTies
import Derived.KernelRfl
namespace Go.Proofs.Ytjfjkmbokiinbaa
/- THE CELL 'sum', in the pinned program and in every row, IS THE sha256 OF THE DUMP (.gsa) THAT YtjfjkmbokiinbaaProg.lean LOADS. Nothing in Lean hashes anything: it is a label: what it is worth is what the hold of that sum in a sandbox is worth. -/
noncomputable def Try.pinned : Pinned := { name := "ytjfjkmbokiinbaa", sum := "3515f1f0e31a6314656ea0ed8e493f6ee24cb4f39300b91f1d43c2bcc04195d5", checked := Try.checked }
namespace Rows
def none {H : Type} : Left H := { results := [], args := [] }

/-- 'jetsamlaw02.SumsTell': WHATEVER THE INPUT: true; the input reads as it did. -/
def sumsTellSpec : ChangeSpec := { name := "sumsTell", fn := fun _ => fun
  | [d1, d2] => { results := [.lit (.bool true)], args := [d1, d2] }
  | _ => none }
def sumsTellRow : OpenClaim := { program := "ytjfjkmbokiinbaa", sum := "3515f1f0e31a6314656ea0ed8e493f6ee24cb4f39300b91f1d43c2bcc04195d5", func := "jetsam/jetsamlaw02.SumsTell", spec := "sumsTell", unfollowed := true, recurses := true, apart := false }
def SumsTellSaid : Prop := sumsTellRow.holds Try.pinned (OpenSpec.ofChange sumsTellSpec)

/-- ITS FALSE NEIGHBOUR: 'it returns false'. Refute it at one input. -/
def sumsTellWrong : ChangeSpec := { name := "sumsTell", fn := fun _ => fun
  | [d1, d2] => { results := [.lit (.bool false)], args := [d1, d2] }
  | _ => none }
def SumsTellWrongFalsely : Prop := sumsTellRow.holds Try.pinned (OpenSpec.ofChange sumsTellWrong)

/-- 'jetsamlaw02.SumsSee': WHATEVER THE INPUT: true; the input reads as it did. -/
def sumsSeeSpec : ChangeSpec := { name := "sumsSee", fn := fun _ => fun
  | [d1, d2, d3] => { results := [.lit (.bool true)], args := [d1, d2, d3] }
  | _ => none }
def sumsSeeRow : OpenClaim := { program := "ytjfjkmbokiinbaa", sum := "3515f1f0e31a6314656ea0ed8e493f6ee24cb4f39300b91f1d43c2bcc04195d5", func := "jetsam/jetsamlaw02.SumsSee", spec := "sumsSee", unfollowed := true, recurses := true, apart := false }
def SumsSeeSaid : Prop := sumsSeeRow.holds Try.pinned (OpenSpec.ofChange sumsSeeSpec)

/-- ITS FALSE NEIGHBOUR: 'it returns false'. Refute it at one input. -/
def sumsSeeWrong : ChangeSpec := { name := "sumsSee", fn := fun _ => fun
  | [d1, d2, d3] => { results := [.lit (.bool false)], args := [d1, d2, d3] }
  | _ => none }
def SumsSeeWrongFalsely : Prop := sumsSeeRow.holds Try.pinned (OpenSpec.ofChange sumsSeeWrong)

/-- 'jetsamlaw02.SumsAdd': WHATEVER THE INPUT: true; the input reads as it did. -/
def sumsAddSpec : ChangeSpec := { name := "sumsAdd", fn := fun _ => fun
  | [d1, d2, d3] => { results := [.lit (.bool true)], args := [d1, d2, d3] }
  | _ => none }
def sumsAddRow : OpenClaim := { program := "ytjfjkmbokiinbaa", sum := "3515f1f0e31a6314656ea0ed8e493f6ee24cb4f39300b91f1d43c2bcc04195d5", func := "jetsam/jetsamlaw02.SumsAdd", spec := "sumsAdd", unfollowed := true, recurses := true, apart := false }
def SumsAddSaid : Prop := sumsAddRow.holds Try.pinned (OpenSpec.ofChange sumsAddSpec)

/-- ITS FALSE NEIGHBOUR: 'it returns false'. Refute it at one input. -/
def sumsAddWrong : ChangeSpec := { name := "sumsAdd", fn := fun _ => fun
  | [d1, d2, d3] => { results := [.lit (.bool false)], args := [d1, d2, d3] }
  | _ => none }
def SumsAddWrongFalsely : Prop := sumsAddRow.holds Try.pinned (OpenSpec.ofChange sumsAddWrong)

/-- 'jetsamlaw02.SumsShift': WHATEVER THE INPUT: true; the input reads as it did. -/
def sumsShiftSpec : ChangeSpec := { name := "sumsShift", fn := fun _ => fun
  | [d1, d2] => { results := [.lit (.bool true)], args := [d1, d2] }
  | _ => none }
def sumsShiftRow : OpenClaim := { program := "ytjfjkmbokiinbaa", sum := "3515f1f0e31a6314656ea0ed8e493f6ee24cb4f39300b91f1d43c2bcc04195d5", func := "jetsam/jetsamlaw02.SumsShift", spec := "sumsShift", unfollowed := true, recurses := true, apart := false }
def SumsShiftSaid : Prop := sumsShiftRow.holds Try.pinned (OpenSpec.ofChange sumsShiftSpec)

/-- ITS FALSE NEIGHBOUR: 'it returns false'. Refute it at one input. -/
def sumsShiftWrong : ChangeSpec := { name := "sumsShift", fn := fun _ => fun
  | [d1, d2] => { results := [.lit (.bool false)], args := [d1, d2] }
  | _ => none }
def SumsShiftWrongFalsely : Prop := sumsShiftRow.holds Try.pinned (OpenSpec.ofChange sumsShiftWrong)

/-- 'jetsamlaw02.SumsJoin': WHATEVER THE INPUT: true; the input reads as it did. -/
def sumsJoinSpec : ChangeSpec := { name := "sumsJoin", fn := fun _ => fun
  | [d1, d2] => { results := [.lit (.bool true)], args := [d1, d2] }
  | _ => none }
def sumsJoinRow : OpenClaim := { program := "ytjfjkmbokiinbaa", sum := "3515f1f0e31a6314656ea0ed8e493f6ee24cb4f39300b91f1d43c2bcc04195d5", func := "jetsam/jetsamlaw02.SumsJoin", spec := "sumsJoin", unfollowed := true, recurses := true, apart := false }
def SumsJoinSaid : Prop := sumsJoinRow.holds Try.pinned (OpenSpec.ofChange sumsJoinSpec)

/-- ITS FALSE NEIGHBOUR: 'it returns false'. Refute it at one input. -/
def sumsJoinWrong : ChangeSpec := { name := "sumsJoin", fn := fun _ => fun
  | [d1, d2] => { results := [.lit (.bool false)], args := [d1, d2] }
  | _ => none }
def SumsJoinWrongFalsely : Prop := sumsJoinRow.holds Try.pinned (OpenSpec.ofChange sumsJoinWrong)

/-- 'jetsamlaw02.SumsMeter': WHATEVER THE INPUT: true; the input reads as it did. -/
def sumsMeterSpec : ChangeSpec := { name := "sumsMeter", fn := fun _ => fun
  | [d1, d2] => { results := [.lit (.bool true)], args := [d1, d2] }
  | _ => none }
def sumsMeterRow : OpenClaim := { program := "ytjfjkmbokiinbaa", sum := "3515f1f0e31a6314656ea0ed8e493f6ee24cb4f39300b91f1d43c2bcc04195d5", func := "jetsam/jetsamlaw02.SumsMeter", spec := "sumsMeter", inPlace := ["sync/atomic.LoadUint32", "(*internal/sync.Mutex).Lock", "internal/race.Disable", "sync/atomic.CompareAndSwapInt32", "internal/race.Enable", "internal/race.Acquire", "(*internal/sync.Mutex).lockSlow", "internal/sync.runtime_canSpin", "internal/sync.runtime_doSpin", "internal/sync.throw", "internal/sync.runtime_nanotime", "internal/sync.runtime_SemacquireMutex", "sync/atomic.AddInt32", "(*internal/sync.Mutex).Unlock", "internal/race.ReleaseMerge", "(*internal/sync.Mutex).unlockSlow", "internal/sync.fatal", "internal/sync.runtime_Semrelease", "sync/atomic.StoreUint32", "sync/atomic.AddInt64", "sync/atomic.LoadInt64"], unfollowed := true, recurses := true, apart := false }
def SumsMeterSaid : Prop := sumsMeterRow.holds Try.pinned (OpenSpec.ofChange sumsMeterSpec)

/-- ITS FALSE NEIGHBOUR: 'it returns false'. Refute it at one input. -/
def sumsMeterWrong : ChangeSpec := { name := "sumsMeter", fn := fun _ => fun
  | [d1, d2] => { results := [.lit (.bool false)], args := [d1, d2] }
  | _ => none }
def SumsMeterWrongFalsely : Prop := sumsMeterRow.holds Try.pinned (OpenSpec.ofChange sumsMeterWrong)

/- THE SECOND FORM. 'bulk': how many values and letters a reading holds, each counted each time it is reached (what is shared counts as often as it is met; a slice's spare places count too). A statement '..UptoSaid' is the law's where the arguments, and the package variables that the reading takes, are together of bulk at most 1048576: NARROWER than '..Said'. Prove '..Said' where nothing that the law and all that it calls make is longer than what came in: it says more and counts as full. Else prove '..UptoSaid'. A law counts once. -/
mutual
def uptoBulk {H : Type} : DataW H → Nat
  | .lit (.string bytes) => bytes.length + 1
  | .lit _ => 1
  | .nil => 1
  | .ptr d => uptoBulk d + 1
  | .slice elems spare => uptoBulkAll elems + uptoBulkAll spare + 1
  | .agg parts => uptoBulkAll parts + 1
  | .iface _ d => uptoBulk d + 1
  | .map entries => uptoBulkEntries entries + 1
  | .held _ => 1
def uptoBulkAll {H : Type} : List (DataW H) → Nat
  | [] => 0
  | d :: r => uptoBulk d + uptoBulkAll r
def uptoBulkEntries {H : Type} : List (Lit × DataW H) → Nat
  | [] => 0
  | x :: r => uptoBulkEntry x + uptoBulkEntries r
def uptoBulkEntry {H : Type} : Lit × DataW H → Nat
  | (.string bytes, d) => bytes.length + uptoBulk d + 1
  | (_, d) => uptoBulk d + 1
 end
def uptoSmall : (H : Type) → List (DataW H) → Bool := fun _ ds => decide (uptoBulkAll ds ≤ 1048576)
def OpenSpec.upto (s : _root_.Go.ChangeSpec) : _root_.Go.OpenSpec := { _root_.Go.OpenSpec.ofChange s with cond := some uptoSmall }

/-- 'jetsamlaw02.SumsTell', WHERE WHAT IT READS IS OF BULK AT MOST 1048576: true; the input reads as it did. -/
def sumsTellUptoRow : OpenClaim := { program := "ytjfjkmbokiinbaa", sum := "3515f1f0e31a6314656ea0ed8e493f6ee24cb4f39300b91f1d43c2bcc04195d5", func := "jetsam/jetsamlaw02.SumsTell", spec := "sumsTell", unfollowed := true, recurses := true, apart := false, narrowed := true }
def SumsTellUptoSaid : Prop := sumsTellUptoRow.holds Try.pinned (OpenSpec.upto sumsTellSpec)

/-- 'jetsamlaw02.SumsSee', WHERE WHAT IT READS IS OF BULK AT MOST 1048576: true; the input reads as it did. -/
def sumsSeeUptoRow : OpenClaim := { program := "ytjfjkmbokiinbaa", sum := "3515f1f0e31a6314656ea0ed8e493f6ee24cb4f39300b91f1d43c2bcc04195d5", func := "jetsam/jetsamlaw02.SumsSee", spec := "sumsSee", unfollowed := true, recurses := true, apart := false, narrowed := true }
def SumsSeeUptoSaid : Prop := sumsSeeUptoRow.holds Try.pinned (OpenSpec.upto sumsSeeSpec)

/-- 'jetsamlaw02.SumsAdd', WHERE WHAT IT READS IS OF BULK AT MOST 1048576: true; the input reads as it did. -/
def sumsAddUptoRow : OpenClaim := { program := "ytjfjkmbokiinbaa", sum := "3515f1f0e31a6314656ea0ed8e493f6ee24cb4f39300b91f1d43c2bcc04195d5", func := "jetsam/jetsamlaw02.SumsAdd", spec := "sumsAdd", unfollowed := true, recurses := true, apart := false, narrowed := true }
def SumsAddUptoSaid : Prop := sumsAddUptoRow.holds Try.pinned (OpenSpec.upto sumsAddSpec)

/-- 'jetsamlaw02.SumsShift', WHERE WHAT IT READS IS OF BULK AT MOST 1048576: true; the input reads as it did. -/
def sumsShiftUptoRow : OpenClaim := { program := "ytjfjkmbokiinbaa", sum := "3515f1f0e31a6314656ea0ed8e493f6ee24cb4f39300b91f1d43c2bcc04195d5", func := "jetsam/jetsamlaw02.SumsShift", spec := "sumsShift", unfollowed := true, recurses := true, apart := false, narrowed := true }
def SumsShiftUptoSaid : Prop := sumsShiftUptoRow.holds Try.pinned (OpenSpec.upto sumsShiftSpec)

/-- 'jetsamlaw02.SumsJoin', WHERE WHAT IT READS IS OF BULK AT MOST 1048576: true; the input reads as it did. -/
def sumsJoinUptoRow : OpenClaim := { program := "ytjfjkmbokiinbaa", sum := "3515f1f0e31a6314656ea0ed8e493f6ee24cb4f39300b91f1d43c2bcc04195d5", func := "jetsam/jetsamlaw02.SumsJoin", spec := "sumsJoin", unfollowed := true, recurses := true, apart := false, narrowed := true }
def SumsJoinUptoSaid : Prop := sumsJoinUptoRow.holds Try.pinned (OpenSpec.upto sumsJoinSpec)

/-- 'jetsamlaw02.SumsMeter', WHERE WHAT IT READS IS OF BULK AT MOST 1048576: true; the input reads as it did. -/
def sumsMeterUptoRow : OpenClaim := { program := "ytjfjkmbokiinbaa", sum := "3515f1f0e31a6314656ea0ed8e493f6ee24cb4f39300b91f1d43c2bcc04195d5", func := "jetsam/jetsamlaw02.SumsMeter", spec := "sumsMeter", inPlace := ["sync/atomic.LoadUint32", "(*internal/sync.Mutex).Lock", "internal/race.Disable", "sync/atomic.CompareAndSwapInt32", "internal/race.Enable", "internal/race.Acquire", "(*internal/sync.Mutex).lockSlow", "internal/sync.runtime_canSpin", "internal/sync.runtime_doSpin", "internal/sync.throw", "internal/sync.runtime_nanotime", "internal/sync.runtime_SemacquireMutex", "sync/atomic.AddInt32", "(*internal/sync.Mutex).Unlock", "internal/race.ReleaseMerge", "(*internal/sync.Mutex).unlockSlow", "internal/sync.fatal", "internal/sync.runtime_Semrelease", "sync/atomic.StoreUint32", "sync/atomic.AddInt64", "sync/atomic.LoadInt64"], unfollowed := true, recurses := true, apart := false, narrowed := true }
def SumsMeterUptoSaid : Prop := sumsMeterUptoRow.holds Try.pinned (OpenSpec.upto sumsMeterSpec)

end Rows
end Go.Proofs.Ytjfjkmbokiinbaa
