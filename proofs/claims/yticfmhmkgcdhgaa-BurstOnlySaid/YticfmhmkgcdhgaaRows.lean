/-
  No cell of these rows narrows 'for every input' (looked for: loops, veiled, ifaces, maps, wideKeys, modest, calm, conditions, laid).
  DERIVED. THE GIVEN ROWS OF THIS SEAT. 7 by the template 'for every input the law returns true; each argument reads behind the call as it read before'; 0 by the template 'total and deterministic' (their statements: YticfmhmkgcdhgaaTotals.lean).
  GIVEN WITH THE SEED: the statements are not yours to turn. If you find one false, say at which input.
  Laid BY PROGRAM, IN A SANDBOX (cutbox-rows.mjs): the forced cells as the released guide's own fill.sh prints them over the translation 6ea40b559fb33a44… (all of the seat's roots in one cut). By AI agents, Wed Nov 11 2026. No macro, syntax, notation, axiom, sorry.
-/
import Derived.Test.YticfmhmkgcdhgaaChecked
import GoSem.Claim
import GoSem.ClaimJoined
import GoSem.ClaimMapViews
import Derived.JoinedTies
import Derived.KernelRfl
namespace Go.Proofs.Yticfmhmkgcdhgaa
/- THE CELL 'sum', in the pinned program and in every row, IS THE sha256 OF THE DUMP (.gsa) THAT YticfmhmkgcdhgaaProg.lean LOADS. Nothing in Lean hashes anything: it is a label: what it is worth is what the hold of that sum in a sandbox is worth. -/
noncomputable def Try.pinned : Pinned := { name := "yticfmhmkgcdhgaa", sum := "6ea40b559fb33a44fbafa743fbdf5481173daa77c127971b5834d14444956c1b", checked := Try.checked }
namespace Rows
def none {H : Type} : Left H := { results := [], args := [] }

/-- 'jetsamlaw18.BurstWide': WHATEVER THE INPUT: true; the input reads as it did. -/
def burstWideSpec : ChangeSpec := { name := "burstWide", fn := fun _ => fun
  | [d1, d2] => { results := [.lit (.bool true)], args := [d1, d2] }
  | _ => none }
def burstWideRow : OpenClaim := { program := "yticfmhmkgcdhgaa", sum := "6ea40b559fb33a44fbafa743fbdf5481173daa77c127971b5834d14444956c1b", func := "jetsam/jetsamlaw18.BurstWide", spec := "burstWide", unfollowed := true, recurses := true, apart := false }
def BurstWideSaid : Prop := burstWideRow.holds Try.pinned (OpenSpec.ofChange burstWideSpec)

/-- ITS FALSE NEIGHBOUR: 'it returns false'. Refute it at one input. -/
def burstWideWrong : ChangeSpec := { name := "burstWide", fn := fun _ => fun
  | [d1, d2] => { results := [.lit (.bool false)], args := [d1, d2] }
  | _ => none }
def BurstWideWrongFalsely : Prop := burstWideRow.holds Try.pinned (OpenSpec.ofChange burstWideWrong)

/-- 'jetsamlaw18.BurstTells': WHATEVER THE INPUT: true; the input reads as it did. -/
def burstTellsSpec : ChangeSpec := { name := "burstTells", fn := fun _ => fun
  | [d1, d2] => { results := [.lit (.bool true)], args := [d1, d2] }
  | _ => none }
def burstTellsRow : OpenClaim := { program := "yticfmhmkgcdhgaa", sum := "6ea40b559fb33a44fbafa743fbdf5481173daa77c127971b5834d14444956c1b", func := "jetsam/jetsamlaw18.BurstTells", spec := "burstTells", unfollowed := true, recurses := true, apart := false }
def BurstTellsSaid : Prop := burstTellsRow.holds Try.pinned (OpenSpec.ofChange burstTellsSpec)

/-- ITS FALSE NEIGHBOUR: 'it returns false'. Refute it at one input. -/
def burstTellsWrong : ChangeSpec := { name := "burstTells", fn := fun _ => fun
  | [d1, d2] => { results := [.lit (.bool false)], args := [d1, d2] }
  | _ => none }
def BurstTellsWrongFalsely : Prop := burstTellsRow.holds Try.pinned (OpenSpec.ofChange burstTellsWrong)

/-- 'jetsamlaw18.BurstApplies': WHATEVER THE INPUT: true; the input reads as it did. -/
def burstAppliesSpec : ChangeSpec := { name := "burstApplies", fn := fun _ => fun
  | [d1, d2] => { results := [.lit (.bool true)], args := [d1, d2] }
  | _ => none }
def burstAppliesRow : OpenClaim := { program := "yticfmhmkgcdhgaa", sum := "6ea40b559fb33a44fbafa743fbdf5481173daa77c127971b5834d14444956c1b", func := "jetsam/jetsamlaw18.BurstApplies", spec := "burstApplies", unfollowed := true, recurses := true, apart := false }
def BurstAppliesSaid : Prop := burstAppliesRow.holds Try.pinned (OpenSpec.ofChange burstAppliesSpec)

/-- ITS FALSE NEIGHBOUR: 'it returns false'. Refute it at one input. -/
def burstAppliesWrong : ChangeSpec := { name := "burstApplies", fn := fun _ => fun
  | [d1, d2] => { results := [.lit (.bool false)], args := [d1, d2] }
  | _ => none }
def BurstAppliesWrongFalsely : Prop := burstAppliesRow.holds Try.pinned (OpenSpec.ofChange burstAppliesWrong)

/-- 'jetsamlaw18.BurstFinds': WHATEVER THE INPUT: true; the input reads as it did. -/
def burstFindsSpec : ChangeSpec := { name := "burstFinds", fn := fun _ => fun
  | [d1, d2] => { results := [.lit (.bool true)], args := [d1, d2] }
  | _ => none }
def burstFindsRow : OpenClaim := { program := "yticfmhmkgcdhgaa", sum := "6ea40b559fb33a44fbafa743fbdf5481173daa77c127971b5834d14444956c1b", func := "jetsam/jetsamlaw18.BurstFinds", spec := "burstFinds", unfollowed := true, recurses := true, apart := false }
def BurstFindsSaid : Prop := burstFindsRow.holds Try.pinned (OpenSpec.ofChange burstFindsSpec)

/-- ITS FALSE NEIGHBOUR: 'it returns false'. Refute it at one input. -/
def burstFindsWrong : ChangeSpec := { name := "burstFinds", fn := fun _ => fun
  | [d1, d2] => { results := [.lit (.bool false)], args := [d1, d2] }
  | _ => none }
def BurstFindsWrongFalsely : Prop := burstFindsRow.holds Try.pinned (OpenSpec.ofChange burstFindsWrong)

/-- 'jetsamlaw18.BurstTwice': WHATEVER THE INPUT: true; the input reads as it did. -/
def burstTwiceSpec : ChangeSpec := { name := "burstTwice", fn := fun _ => fun
  | [d1, d2, d3] => { results := [.lit (.bool true)], args := [d1, d2, d3] }
  | _ => none }
def burstTwiceRow : OpenClaim := { program := "yticfmhmkgcdhgaa", sum := "6ea40b559fb33a44fbafa743fbdf5481173daa77c127971b5834d14444956c1b", func := "jetsam/jetsamlaw18.BurstTwice", spec := "burstTwice", unfollowed := true, recurses := true, apart := false }
def BurstTwiceSaid : Prop := burstTwiceRow.holds Try.pinned (OpenSpec.ofChange burstTwiceSpec)

/-- ITS FALSE NEIGHBOUR: 'it returns false'. Refute it at one input. -/
def burstTwiceWrong : ChangeSpec := { name := "burstTwice", fn := fun _ => fun
  | [d1, d2, d3] => { results := [.lit (.bool false)], args := [d1, d2, d3] }
  | _ => none }
def BurstTwiceWrongFalsely : Prop := burstTwiceRow.holds Try.pinned (OpenSpec.ofChange burstTwiceWrong)

/-- 'jetsamlaw18.BurstOnly': WHATEVER THE INPUT: true; the input reads as it did. -/
def burstOnlySpec : ChangeSpec := { name := "burstOnly", fn := fun _ => fun
  | [d1, d2, d3] => { results := [.lit (.bool true)], args := [d1, d2, d3] }
  | _ => none }
def burstOnlyRow : OpenClaim := { program := "yticfmhmkgcdhgaa", sum := "6ea40b559fb33a44fbafa743fbdf5481173daa77c127971b5834d14444956c1b", func := "jetsam/jetsamlaw18.BurstOnly", spec := "burstOnly", unfollowed := true, recurses := true, apart := false }
def BurstOnlySaid : Prop := burstOnlyRow.holds Try.pinned (OpenSpec.ofChange burstOnlySpec)

/-- ITS FALSE NEIGHBOUR: 'it returns false'. Refute it at one input. -/
def burstOnlyWrong : ChangeSpec := { name := "burstOnly", fn := fun _ => fun
  | [d1, d2, d3] => { results := [.lit (.bool false)], args := [d1, d2, d3] }
  | _ => none }
def BurstOnlyWrongFalsely : Prop := burstOnlyRow.holds Try.pinned (OpenSpec.ofChange burstOnlyWrong)

/-- 'jetsamlaw18.BurstOf': WHATEVER THE INPUT: true; the input reads as it did. -/
def burstOfSpec : ChangeSpec := { name := "burstOf", fn := fun _ => fun
  | [d1, d2, d3] => { results := [.lit (.bool true)], args := [d1, d2, d3] }
  | _ => none }
def burstOfRow : OpenClaim := { program := "yticfmhmkgcdhgaa", sum := "6ea40b559fb33a44fbafa743fbdf5481173daa77c127971b5834d14444956c1b", func := "jetsam/jetsamlaw18.BurstOf", spec := "burstOf", unfollowed := true, recurses := true, apart := false }
def BurstOfSaid : Prop := burstOfRow.holds Try.pinned (OpenSpec.ofChange burstOfSpec)

/-- ITS FALSE NEIGHBOUR: 'it returns false'. Refute it at one input. -/
def burstOfWrong : ChangeSpec := { name := "burstOf", fn := fun _ => fun
  | [d1, d2, d3] => { results := [.lit (.bool false)], args := [d1, d2, d3] }
  | _ => none }
def BurstOfWrongFalsely : Prop := burstOfRow.holds Try.pinned (OpenSpec.ofChange burstOfWrong)

/- THE SECOND FORM. 'bulk': how many values and letters a reading holds, each counted each time it is reached (what is shared counts as often as it is met; a slice's spare places count too). A statement '..UptoSaid' is the law's where the arguments, and the package variables that the reading takes, are together of bulk at most 1048576: NARROWER than '..Said'. Prove '..Said' where nothing that the law and all that it calls make is longer than what came in: it says more and counts as full. Else prove '..UptoSaid'. A law counts once. -/
mutual
def uptoBulk {H : Type} : DataW H → Nat
  | .lit (.string bytes) => bytes.length + 1
  | .lit _ => 1
  | .nil => 1
  | .ptr d => uptoBulk d + 1
  | .slice elems spare => uptoBulkAll elems + uptoBulkAll spare + 1
  | .agg parts => uptoBulkAll parts + 1
  | .iface _ d => uptoBulk d + 1
  | .map entries => uptoBulkEntries entries + 1
  | .held _ => 1
def uptoBulkAll {H : Type} : List (DataW H) → Nat
  | [] => 0
  | d :: r => uptoBulk d + uptoBulkAll r
def uptoBulkEntries {H : Type} : List (Lit × DataW H) → Nat
  | [] => 0
  | x :: r => uptoBulkEntry x + uptoBulkEntries r
def uptoBulkEntry {H : Type} : Lit × DataW H → Nat
  | (.string bytes, d) => bytes.length + uptoBulk d + 1
  | (_, d) => uptoBulk d + 1
 end
def uptoSmall : (H : Type) → List (DataW H) → Bool := fun _ ds => decide (uptoBulkAll ds ≤ 1048576)
def OpenSpec.upto (s : _root_.Go.ChangeSpec) : _root_.Go.OpenSpec := { _root_.Go.OpenSpec.ofChange s with cond := some uptoSmall }

/-- 'jetsamlaw18.BurstWide', WHERE WHAT IT READS IS OF BULK AT MOST 1048576: true; the input reads as it did. -/
def burstWideUptoRow : OpenClaim := { program := "yticfmhmkgcdhgaa", sum := "6ea40b559fb33a44fbafa743fbdf5481173daa77c127971b5834d14444956c1b", func := "jetsam/jetsamlaw18.BurstWide", spec := "burstWide", unfollowed := true, recurses := true, apart := false, narrowed := true }
def BurstWideUptoSaid : Prop := burstWideUptoRow.holds Try.pinned (OpenSpec.upto burstWideSpec)

/-- 'jetsamlaw18.BurstTells', WHERE WHAT IT READS IS OF BULK AT MOST 1048576: true; the input reads as it did. -/
def burstTellsUptoRow : OpenClaim := { program := "yticfmhmkgcdhgaa", sum := "6ea40b559fb33a44fbafa743fbdf5481173daa77c127971b5834d14444956c1b", func := "jetsam/jetsamlaw18.BurstTells", spec := "burstTells", unfollowed := true, recurses := true, apart := false, narrowed := true }
def BurstTellsUptoSaid : Prop := burstTellsUptoRow.holds Try.pinned (OpenSpec.upto burstTellsSpec)

/-- 'jetsamlaw18.BurstApplies', WHERE WHAT IT READS IS OF BULK AT MOST 1048576: true; the input reads as it did. -/
def burstAppliesUptoRow : OpenClaim := { program := "yticfmhmkgcdhgaa", sum := "6ea40b559fb33a44fbafa743fbdf5481173daa77c127971b5834d14444956c1b", func := "jetsam/jetsamlaw18.BurstApplies", spec := "burstApplies", unfollowed := true, recurses := true, apart := false, narrowed := true }
def BurstAppliesUptoSaid : Prop := burstAppliesUptoRow.holds Try.pinned (OpenSpec.upto burstAppliesSpec)

/-- 'jetsamlaw18.BurstFinds', WHERE WHAT IT READS IS OF BULK AT MOST 1048576: true; the input reads as it did. -/
def burstFindsUptoRow : OpenClaim := { program := "yticfmhmkgcdhgaa", sum := "6ea40b559fb33a44fbafa743fbdf5481173daa77c127971b5834d14444956c1b", func := "jetsam/jetsamlaw18.BurstFinds", spec := "burstFinds", unfollowed := true, recurses := true, apart := false, narrowed := true }
def BurstFindsUptoSaid : Prop := burstFindsUptoRow.holds Try.pinned (OpenSpec.upto burstFindsSpec)

/-- 'jetsamlaw18.BurstTwice', WHERE WHAT IT READS IS OF BULK AT MOST 1048576: true; the input reads as it did. -/
def burstTwiceUptoRow : OpenClaim := { program := "yticfmhmkgcdhgaa", sum := "6ea40b559fb33a44fbafa743fbdf5481173daa77c127971b5834d14444956c1b", func := "jetsam/jetsamlaw18.BurstTwice", spec := "burstTwice", unfollowed := true, recurses := true, apart := false, narrowed := true }
def BurstTwiceUptoSaid : Prop := burstTwiceUptoRow.holds Try.pinned (OpenSpec.upto burstTwiceSpec)

/-- 'jetsamlaw18.BurstOnly', WHERE WHAT IT READS IS OF BULK AT MOST 1048576: true; the input reads as it did. -/
def burstOnlyUptoRow : OpenClaim := { program := "yticfmhmkgcdhgaa", sum := "6ea40b559fb33a44fbafa743fbdf5481173daa77c127971b5834d14444956c1b", func := "jetsam/jetsamlaw18.BurstOnly", spec := "burstOnly", unfollowed := true, recurses := true, apart := false, narrowed := true }
def BurstOnlyUptoSaid : Prop := burstOnlyUptoRow.holds Try.pinned (OpenSpec.upto burstOnlySpec)

/-- 'jetsamlaw18.BurstOf', WHERE WHAT IT READS IS OF BULK AT MOST 1048576: true; the input reads as it did. -/
def burstOfUptoRow : OpenClaim := { program := "yticfmhmkgcdhgaa", sum := "6ea40b559fb33a44fbafa743fbdf5481173daa77c127971b5834d14444956c1b", func := "jetsam/jetsamlaw18.BurstOf", spec := "burstOf", unfollowed := true, recurses := true, apart := false, narrowed := true }
def BurstOfUptoSaid : Prop := burstOfUptoRow.holds Try.pinned (OpenSpec.upto burstOfSpec)

end Rows
end Go.Proofs.Yticfmhmkgcdhgaa
