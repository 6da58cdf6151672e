/-
  NARROWER THAN 'FOR EVERY INPUT', by the rows' own cells (each row's printed sentence says how): CodedPuts: laid · CodedBack: laid · CodedOrder: laid · CodedInside: laid.
  DERIVED. THE GIVEN ROWS OF THIS SEAT. 4 by the template 'for every input the law returns true; each argument reads behind the call as it read before'; 0 by the template 'total and deterministic' (their statements: YtjiopnjmklampaaDoorTotals.lean).
  GIVEN WITH THE SEED: the statements are not yours to turn. If you find one false, say at which input.
  Laid BY PROGRAM, IN A SANDBOX (cutbox-rows.mjs): the forced cells as the released guide's own fill.sh prints them over the translation bd5c639b32efeb7f… (all of the seat's roots in one cut). By AI agents, Wed Nov 11 2026. No macro, syntax, notation, axiom, sorry.
-/
import Derived.Test.YtjiopnjmklampaaDoorChecked
import GoSem.Claim
import GoSem.ClaimJoined
import GoSem.ClaimMapViews
import Derived.JoinedTies
import Derived.KernelRfl
namespace Go.Proofs.YtjiopnjmklampaaDoor
/- THE CELL 'sum', in the pinned program and in every row, IS THE sha256 OF THE DUMP (.gsa) THAT YtjiopnjmklampaaDoorProg.lean LOADS. Nothing in Lean hashes anything: it is a label: what it is worth is what the hold of that sum in a sandbox is worth. -/
noncomputable def Tryd.pinned : Pinned := { name := "ytjiopnjmklampaadoor", sum := "bd5c639b32efeb7faac3a90399e300f456c854770dfc2b3800ffa4ea28dfe195", checked := Tryd.checked }
namespace Rows
def none {H : Type} : Left H := { results := [], args := [] }

/- WHAT THE LISTED PACKAGE-LEVEL VARIABLES READ AS WHEN THE CALL BEGINS. Each datum BY PROGRAM (the guide's laid-datum.mjs) off the statement by which the dump's own 'gosem.cut.vars' lays the variable. In a bare row this is a premise. The card (YtjiopnjmklampaaDoorCards.lean) ties it to the program's text. -/
def laid_jetsam_coded_limits {H : Type} : DataW H := .agg [.lit (.int .i64 0), .lit (.int .i64 128), .lit (.int .i64 2048), .lit (.int .i64 65536), .lit (.int .i64 2097152), .lit (.int .i64 67108864), .lit (.int .i64 2147483648), .lit (.int .i64 68719476736)]

/-- 'jetsamlaw03.CodedPuts': WHATEVER THE INPUT: true; the input reads as it did. -/
def codedPutsSpec : ChangeSpec := { name := "codedPuts", fn := fun _ => fun
  | [d] => { results := [.lit (.bool true)], args := [d] }
  | _ => none }
def codedPutsRow : OpenClaim := { program := "ytjiopnjmklampaadoor", sum := "bd5c639b32efeb7faac3a90399e300f456c854770dfc2b3800ffa4ea28dfe195", func := "jetsam/jetsamlaw03.CodedPuts", spec := "codedPuts", unfollowed := true, recurses := true, named := ["jetsam/coded.limits"], apart := false, laid := [("jetsam/coded.limits", laid_jetsam_coded_limits)] }
def CodedPutsSaid : Prop := codedPutsRow.holds Tryd.pinned (OpenSpec.ofChange codedPutsSpec)

/-- ITS FALSE NEIGHBOUR: 'it returns false'. Refute it at one input. -/
def codedPutsWrong : ChangeSpec := { name := "codedPuts", fn := fun _ => fun
  | [d] => { results := [.lit (.bool false)], args := [d] }
  | _ => none }
def CodedPutsWrongFalsely : Prop := codedPutsRow.holds Tryd.pinned (OpenSpec.ofChange codedPutsWrong)

/-- 'jetsamlaw03.CodedBack': WHATEVER THE INPUT: true; the input reads as it did. -/
def codedBackSpec : ChangeSpec := { name := "codedBack", fn := fun _ => fun
  | [d1, d2] => { results := [.lit (.bool true)], args := [d1, d2] }
  | _ => none }
def codedBackRow : OpenClaim := { program := "ytjiopnjmklampaadoor", sum := "bd5c639b32efeb7faac3a90399e300f456c854770dfc2b3800ffa4ea28dfe195", func := "jetsam/jetsamlaw03.CodedBack", spec := "codedBack", unfollowed := true, recurses := true, named := ["jetsam/coded.limits"], apart := false, laid := [("jetsam/coded.limits", laid_jetsam_coded_limits)] }
def CodedBackSaid : Prop := codedBackRow.holds Tryd.pinned (OpenSpec.ofChange codedBackSpec)

/-- ITS FALSE NEIGHBOUR: 'it returns false'. Refute it at one input. -/
def codedBackWrong : ChangeSpec := { name := "codedBack", fn := fun _ => fun
  | [d1, d2] => { results := [.lit (.bool false)], args := [d1, d2] }
  | _ => none }
def CodedBackWrongFalsely : Prop := codedBackRow.holds Tryd.pinned (OpenSpec.ofChange codedBackWrong)

/-- 'jetsamlaw03.CodedOrder': WHATEVER THE INPUT: true; the input reads as it did. -/
def codedOrderSpec : ChangeSpec := { name := "codedOrder", fn := fun _ => fun
  | [d1, d2] => { results := [.lit (.bool true)], args := [d1, d2] }
  | _ => none }
def codedOrderRow : OpenClaim := { program := "ytjiopnjmklampaadoor", sum := "bd5c639b32efeb7faac3a90399e300f456c854770dfc2b3800ffa4ea28dfe195", func := "jetsam/jetsamlaw03.CodedOrder", spec := "codedOrder", unfollowed := true, recurses := true, named := ["jetsam/coded.limits"], apart := false, laid := [("jetsam/coded.limits", laid_jetsam_coded_limits)] }
def CodedOrderSaid : Prop := codedOrderRow.holds Tryd.pinned (OpenSpec.ofChange codedOrderSpec)

/-- ITS FALSE NEIGHBOUR: 'it returns false'. Refute it at one input. -/
def codedOrderWrong : ChangeSpec := { name := "codedOrder", fn := fun _ => fun
  | [d1, d2] => { results := [.lit (.bool false)], args := [d1, d2] }
  | _ => none }
def CodedOrderWrongFalsely : Prop := codedOrderRow.holds Tryd.pinned (OpenSpec.ofChange codedOrderWrong)

/-- 'jetsamlaw03.CodedInside': WHATEVER THE INPUT: true; the input reads as it did. -/
def codedInsideSpec : ChangeSpec := { name := "codedInside", fn := fun _ => fun
  | [d1, d2] => { results := [.lit (.bool true)], args := [d1, d2] }
  | _ => none }
def codedInsideRow : OpenClaim := { program := "ytjiopnjmklampaadoor", sum := "bd5c639b32efeb7faac3a90399e300f456c854770dfc2b3800ffa4ea28dfe195", func := "jetsam/jetsamlaw03.CodedInside", spec := "codedInside", unfollowed := true, recurses := true, named := ["jetsam/coded.limits"], apart := false, laid := [("jetsam/coded.limits", laid_jetsam_coded_limits)] }
def CodedInsideSaid : Prop := codedInsideRow.holds Tryd.pinned (OpenSpec.ofChange codedInsideSpec)

/-- ITS FALSE NEIGHBOUR: 'it returns false'. Refute it at one input. -/
def codedInsideWrong : ChangeSpec := { name := "codedInside", fn := fun _ => fun
  | [d1, d2] => { results := [.lit (.bool false)], args := [d1, d2] }
  | _ => none }
def CodedInsideWrongFalsely : Prop := codedInsideRow.holds Tryd.pinned (OpenSpec.ofChange codedInsideWrong)

/- THE SECOND FORM. 'bulk': how many values and letters a reading holds, each counted each time it is reached (what is shared counts as often as it is met; a slice's spare places count too). A statement '..UptoSaid' is the law's where the arguments, and the package variables that the reading takes, are together of bulk at most 1048576: NARROWER than '..Said'. Prove '..Said' where nothing that the law and all that it calls make is longer than what came in: it says more and counts as full. Else prove '..UptoSaid'. A law counts once. -/
mutual
def uptoBulk {H : Type} : DataW H → Nat
  | .lit (.string bytes) => bytes.length + 1
  | .lit _ => 1
  | .nil => 1
  | .ptr d => uptoBulk d + 1
  | .slice elems spare => uptoBulkAll elems + uptoBulkAll spare + 1
  | .agg parts => uptoBulkAll parts + 1
  | .iface _ d => uptoBulk d + 1
  | .map entries => uptoBulkEntries entries + 1
  | .held _ => 1
def uptoBulkAll {H : Type} : List (DataW H) → Nat
  | [] => 0
  | d :: r => uptoBulk d + uptoBulkAll r
def uptoBulkEntries {H : Type} : List (Lit × DataW H) → Nat
  | [] => 0
  | x :: r => uptoBulkEntry x + uptoBulkEntries r
def uptoBulkEntry {H : Type} : Lit × DataW H → Nat
  | (.string bytes, d) => bytes.length + uptoBulk d + 1
  | (_, d) => uptoBulk d + 1
 end
def uptoSmall : (H : Type) → List (DataW H) → Bool := fun _ ds => decide (uptoBulkAll ds ≤ 1048576)
def OpenSpec.upto (s : _root_.Go.ChangeSpec) : _root_.Go.OpenSpec := { _root_.Go.OpenSpec.ofChange s with cond := some uptoSmall }

/-- 'jetsamlaw03.CodedPuts', WHERE WHAT IT READS IS OF BULK AT MOST 1048576: true; the input reads as it did. -/
def codedPutsUptoRow : OpenClaim := { program := "ytjiopnjmklampaadoor", sum := "bd5c639b32efeb7faac3a90399e300f456c854770dfc2b3800ffa4ea28dfe195", func := "jetsam/jetsamlaw03.CodedPuts", spec := "codedPuts", unfollowed := true, recurses := true, named := ["jetsam/coded.limits"], apart := false, laid := [("jetsam/coded.limits", laid_jetsam_coded_limits)], narrowed := true }
def CodedPutsUptoSaid : Prop := codedPutsUptoRow.holds Tryd.pinned (OpenSpec.upto codedPutsSpec)

/-- 'jetsamlaw03.CodedBack', WHERE WHAT IT READS IS OF BULK AT MOST 1048576: true; the input reads as it did. -/
def codedBackUptoRow : OpenClaim := { program := "ytjiopnjmklampaadoor", sum := "bd5c639b32efeb7faac3a90399e300f456c854770dfc2b3800ffa4ea28dfe195", func := "jetsam/jetsamlaw03.CodedBack", spec := "codedBack", unfollowed := true, recurses := true, named := ["jetsam/coded.limits"], apart := false, laid := [("jetsam/coded.limits", laid_jetsam_coded_limits)], narrowed := true }
def CodedBackUptoSaid : Prop := codedBackUptoRow.holds Tryd.pinned (OpenSpec.upto codedBackSpec)

/-- 'jetsamlaw03.CodedOrder', WHERE WHAT IT READS IS OF BULK AT MOST 1048576: true; the input reads as it did. -/
def codedOrderUptoRow : OpenClaim := { program := "ytjiopnjmklampaadoor", sum := "bd5c639b32efeb7faac3a90399e300f456c854770dfc2b3800ffa4ea28dfe195", func := "jetsam/jetsamlaw03.CodedOrder", spec := "codedOrder", unfollowed := true, recurses := true, named := ["jetsam/coded.limits"], apart := false, laid := [("jetsam/coded.limits", laid_jetsam_coded_limits)], narrowed := true }
def CodedOrderUptoSaid : Prop := codedOrderUptoRow.holds Tryd.pinned (OpenSpec.upto codedOrderSpec)

/-- 'jetsamlaw03.CodedInside', WHERE WHAT IT READS IS OF BULK AT MOST 1048576: true; the input reads as it did. -/
def codedInsideUptoRow : OpenClaim := { program := "ytjiopnjmklampaadoor", sum := "bd5c639b32efeb7faac3a90399e300f456c854770dfc2b3800ffa4ea28dfe195", func := "jetsam/jetsamlaw03.CodedInside", spec := "codedInside", unfollowed := true, recurses := true, named := ["jetsam/coded.limits"], apart := false, laid := [("jetsam/coded.limits", laid_jetsam_coded_limits)], narrowed := true }
def CodedInsideUptoSaid : Prop := codedInsideUptoRow.holds Tryd.pinned (OpenSpec.upto codedInsideSpec)

end Rows
end Go.Proofs.YtjiopnjmklampaaDoor
