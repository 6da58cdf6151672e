/-
  NARROWER THAN 'FOR EVERY INPUT', by the rows' own cells (each row's printed sentence says how): HeaderWrites: laid · HeaderMakes: laid · HeaderShort: laid · HeaderBack: laid · HeaderSees: laid.
  DERIVED. THE GIVEN ROWS OF THIS SEAT. 5 by the template 'for every input the law returns true; each argument reads behind the call as it read before'; 0 by the template 'total and deterministic' (their statements: YtgohfbfdhdepnaaDoorTotals.lean).
  GIVEN WITH THE SEED: the statements are not yours to turn. If you find one false, say at which input.
  Laid BY PROGRAM, IN A SANDBOX (cutbox-rows.mjs): the forced cells as the released guide's own fill.sh prints them over the translation 33709abb3f49cd7b… (all of the seat's roots in one cut). By AI agents, Wed Nov 11 2026. No macro, syntax, notation, axiom, sorry.
-/
import Derived.Test.YtgohfbfdhdepnaaDoorChecked
import GoSem.Claim
import GoSem.ClaimJoined
import GoSem.ClaimMapViews
import Derived.JoinedTies
import Derived.KernelRfl
namespace Go.Proofs.YtgohfbfdhdepnaaDoor
/- THE CELL 'sum', in the pinned program and in every row, IS THE sha256 OF THE DUMP (.gsa) THAT YtgohfbfdhdepnaaDoorProg.lean LOADS. Nothing in Lean hashes anything: it is a label: what it is worth is what the hold of that sum in a sandbox is worth. -/
noncomputable def Tryd.pinned : Pinned := { name := "ytgohfbfdhdepnaadoor", sum := "33709abb3f49cd7b403a1f423e89840428dc6a3a474203b6491b674d4f4275d5", checked := Tryd.checked }
namespace Rows
def none {H : Type} : Left H := { results := [], args := [] }

/- WHAT THE LISTED PACKAGE-LEVEL VARIABLES READ AS WHEN THE CALL BEGINS. Each datum BY PROGRAM (the guide's laid-datum.mjs) off the statement by which the dump's own 'gosem.cut.vars' lays the variable. In a bare row this is a premise. The card (YtgohfbfdhdepnaaDoorCards.lean) ties it to the program's text. -/
def laid_jetsam_coded_limits {H : Type} : DataW H := .agg [.lit (.int .i64 0), .lit (.int .i64 128), .lit (.int .i64 2048), .lit (.int .i64 65536), .lit (.int .i64 2097152), .lit (.int .i64 67108864), .lit (.int .i64 2147483648), .lit (.int .i64 68719476736)]
def laid_jetsam_header_blocks {H : Type} : DataW H := .agg [.lit (.int .i64 (-1)), .lit (.int .i64 192), .lit (.int .i64 576), .lit (.int .i64 1152), .lit (.int .i64 2304), .lit (.int .i64 4608), .lit (.int .i64 (-2)), .lit (.int .i64 (-2)), .lit (.int .i64 256), .lit (.int .i64 512), .lit (.int .i64 1024), .lit (.int .i64 2048), .lit (.int .i64 4096), .lit (.int .i64 8192), .lit (.int .i64 16384), .lit (.int .i64 32768)]
def laid_jetsam_header_rates {H : Type} : DataW H := .agg [.lit (.int .i64 0), .lit (.int .i64 88200), .lit (.int .i64 176400), .lit (.int .i64 192000), .lit (.int .i64 8000), .lit (.int .i64 16000), .lit (.int .i64 22050), .lit (.int .i64 24000), .lit (.int .i64 32000), .lit (.int .i64 44100), .lit (.int .i64 48000), .lit (.int .i64 96000), .lit (.int .i64 (-2)), .lit (.int .i64 (-2)), .lit (.int .i64 (-2)), .lit (.int .i64 (-1))]
def laid_jetsam_header_depths {H : Type} : DataW H := .agg [.lit (.int .i64 0), .lit (.int .i64 8), .lit (.int .i64 12), .lit (.int .i64 (-1)), .lit (.int .i64 16), .lit (.int .i64 20), .lit (.int .i64 24), .lit (.int .i64 32)]

/-- 'jetsamlaw08.HeaderWrites': WHATEVER THE INPUT: true; the input reads as it did. -/
def headerWritesSpec : ChangeSpec := { name := "headerWrites", fn := fun _ => fun
  | [d] => { results := [.lit (.bool true)], args := [d] }
  | _ => none }
def headerWritesRow : OpenClaim := { program := "ytgohfbfdhdepnaadoor", sum := "33709abb3f49cd7b403a1f423e89840428dc6a3a474203b6491b674d4f4275d5", func := "jetsam/jetsamlaw08.HeaderWrites", spec := "headerWrites", unfollowed := true, recurses := true, named := ["jetsam/header.blocks", "jetsam/header.rates", "jetsam/header.depths", "jetsam/coded.limits"], apart := false, laid := [("jetsam/coded.limits", laid_jetsam_coded_limits), ("jetsam/header.blocks", laid_jetsam_header_blocks), ("jetsam/header.rates", laid_jetsam_header_rates), ("jetsam/header.depths", laid_jetsam_header_depths)] }
def HeaderWritesSaid : Prop := headerWritesRow.holds Tryd.pinned (OpenSpec.ofChange headerWritesSpec)

/-- ITS FALSE NEIGHBOUR: 'it returns false'. Refute it at one input. -/
def headerWritesWrong : ChangeSpec := { name := "headerWrites", fn := fun _ => fun
  | [d] => { results := [.lit (.bool false)], args := [d] }
  | _ => none }
def HeaderWritesWrongFalsely : Prop := headerWritesRow.holds Tryd.pinned (OpenSpec.ofChange headerWritesWrong)

/-- 'jetsamlaw08.HeaderMakes': WHATEVER THE INPUT: true; the input reads as it did. -/
def headerMakesSpec : ChangeSpec := { name := "headerMakes", fn := fun _ => fun
  | [d1, d2, d3] => { results := [.lit (.bool true)], args := [d1, d2, d3] }
  | _ => none }
def headerMakesRow : OpenClaim := { program := "ytgohfbfdhdepnaadoor", sum := "33709abb3f49cd7b403a1f423e89840428dc6a3a474203b6491b674d4f4275d5", func := "jetsam/jetsamlaw08.HeaderMakes", spec := "headerMakes", unfollowed := true, recurses := true, named := ["jetsam/header.blocks", "jetsam/header.rates", "jetsam/header.depths", "jetsam/coded.limits"], apart := false, laid := [("jetsam/coded.limits", laid_jetsam_coded_limits), ("jetsam/header.blocks", laid_jetsam_header_blocks), ("jetsam/header.rates", laid_jetsam_header_rates), ("jetsam/header.depths", laid_jetsam_header_depths)] }
def HeaderMakesSaid : Prop := headerMakesRow.holds Tryd.pinned (OpenSpec.ofChange headerMakesSpec)

/-- ITS FALSE NEIGHBOUR: 'it returns false'. Refute it at one input. -/
def headerMakesWrong : ChangeSpec := { name := "headerMakes", fn := fun _ => fun
  | [d1, d2, d3] => { results := [.lit (.bool false)], args := [d1, d2, d3] }
  | _ => none }
def HeaderMakesWrongFalsely : Prop := headerMakesRow.holds Tryd.pinned (OpenSpec.ofChange headerMakesWrong)

/-- 'jetsamlaw08.HeaderShort': WHATEVER THE INPUT: true; the input reads as it did. -/
def headerShortSpec : ChangeSpec := { name := "headerShort", fn := fun _ => fun
  | [d] => { results := [.lit (.bool true)], args := [d] }
  | _ => none }
def headerShortRow : OpenClaim := { program := "ytgohfbfdhdepnaadoor", sum := "33709abb3f49cd7b403a1f423e89840428dc6a3a474203b6491b674d4f4275d5", func := "jetsam/jetsamlaw08.HeaderShort", spec := "headerShort", unfollowed := true, recurses := true, named := ["jetsam/header.blocks", "jetsam/header.rates", "jetsam/header.depths", "jetsam/coded.limits"], apart := false, laid := [("jetsam/coded.limits", laid_jetsam_coded_limits), ("jetsam/header.blocks", laid_jetsam_header_blocks), ("jetsam/header.rates", laid_jetsam_header_rates), ("jetsam/header.depths", laid_jetsam_header_depths)] }
def HeaderShortSaid : Prop := headerShortRow.holds Tryd.pinned (OpenSpec.ofChange headerShortSpec)

/-- ITS FALSE NEIGHBOUR: 'it returns false'. Refute it at one input. -/
def headerShortWrong : ChangeSpec := { name := "headerShort", fn := fun _ => fun
  | [d] => { results := [.lit (.bool false)], args := [d] }
  | _ => none }
def HeaderShortWrongFalsely : Prop := headerShortRow.holds Tryd.pinned (OpenSpec.ofChange headerShortWrong)

/-- 'jetsamlaw08.HeaderBack': WHATEVER THE INPUT: true; the input reads as it did. -/
def headerBackSpec : ChangeSpec := { name := "headerBack", fn := fun _ => fun
  | [d1, d2] => { results := [.lit (.bool true)], args := [d1, d2] }
  | _ => none }
def headerBackRow : OpenClaim := { program := "ytgohfbfdhdepnaadoor", sum := "33709abb3f49cd7b403a1f423e89840428dc6a3a474203b6491b674d4f4275d5", func := "jetsam/jetsamlaw08.HeaderBack", spec := "headerBack", unfollowed := true, recurses := true, named := ["jetsam/header.blocks", "jetsam/header.rates", "jetsam/header.depths", "jetsam/coded.limits"], apart := false, laid := [("jetsam/coded.limits", laid_jetsam_coded_limits), ("jetsam/header.blocks", laid_jetsam_header_blocks), ("jetsam/header.rates", laid_jetsam_header_rates), ("jetsam/header.depths", laid_jetsam_header_depths)] }
def HeaderBackSaid : Prop := headerBackRow.holds Tryd.pinned (OpenSpec.ofChange headerBackSpec)

/-- ITS FALSE NEIGHBOUR: 'it returns false'. Refute it at one input. -/
def headerBackWrong : ChangeSpec := { name := "headerBack", fn := fun _ => fun
  | [d1, d2] => { results := [.lit (.bool false)], args := [d1, d2] }
  | _ => none }
def HeaderBackWrongFalsely : Prop := headerBackRow.holds Tryd.pinned (OpenSpec.ofChange headerBackWrong)

/-- 'jetsamlaw08.HeaderSees': WHATEVER THE INPUT: true; the input reads as it did. -/
def headerSeesSpec : ChangeSpec := { name := "headerSees", fn := fun _ => fun
  | [d1, d2, d3] => { results := [.lit (.bool true)], args := [d1, d2, d3] }
  | _ => none }
def headerSeesRow : OpenClaim := { program := "ytgohfbfdhdepnaadoor", sum := "33709abb3f49cd7b403a1f423e89840428dc6a3a474203b6491b674d4f4275d5", func := "jetsam/jetsamlaw08.HeaderSees", spec := "headerSees", unfollowed := true, recurses := true, named := ["jetsam/header.blocks", "jetsam/header.rates", "jetsam/header.depths", "jetsam/coded.limits"], apart := false, laid := [("jetsam/coded.limits", laid_jetsam_coded_limits), ("jetsam/header.blocks", laid_jetsam_header_blocks), ("jetsam/header.rates", laid_jetsam_header_rates), ("jetsam/header.depths", laid_jetsam_header_depths)] }
def HeaderSeesSaid : Prop := headerSeesRow.holds Tryd.pinned (OpenSpec.ofChange headerSeesSpec)

/-- ITS FALSE NEIGHBOUR: 'it returns false'. Refute it at one input. -/
def headerSeesWrong : ChangeSpec := { name := "headerSees", fn := fun _ => fun
  | [d1, d2, d3] => { results := [.lit (.bool false)], args := [d1, d2, d3] }
  | _ => none }
def HeaderSeesWrongFalsely : Prop := headerSeesRow.holds Tryd.pinned (OpenSpec.ofChange headerSeesWrong)

/- THE SECOND FORM. 'bulk': how many values and letters a reading holds, each counted each time it is reached (what is shared counts as often as it is met; a slice's spare places count too). A statement '..UptoSaid' is the law's where the arguments, and the package variables that the reading takes, are together of bulk at most 1048576: NARROWER than '..Said'. Prove '..Said' where nothing that the law and all that it calls make is longer than what came in: it says more and counts as full. Else prove '..UptoSaid'. A law counts once. -/
mutual
def uptoBulk {H : Type} : DataW H → Nat
  | .lit (.string bytes) => bytes.length + 1
  | .lit _ => 1
  | .nil => 1
  | .ptr d => uptoBulk d + 1
  | .slice elems spare => uptoBulkAll elems + uptoBulkAll spare + 1
  | .agg parts => uptoBulkAll parts + 1
  | .iface _ d => uptoBulk d + 1
  | .map entries => uptoBulkEntries entries + 1
  | .held _ => 1
def uptoBulkAll {H : Type} : List (DataW H) → Nat
  | [] => 0
  | d :: r => uptoBulk d + uptoBulkAll r
def uptoBulkEntries {H : Type} : List (Lit × DataW H) → Nat
  | [] => 0
  | x :: r => uptoBulkEntry x + uptoBulkEntries r
def uptoBulkEntry {H : Type} : Lit × DataW H → Nat
  | (.string bytes, d) => bytes.length + uptoBulk d + 1
  | (_, d) => uptoBulk d + 1
 end
def uptoSmall : (H : Type) → List (DataW H) → Bool := fun _ ds => decide (uptoBulkAll ds ≤ 1048576)
def OpenSpec.upto (s : _root_.Go.ChangeSpec) : _root_.Go.OpenSpec := { _root_.Go.OpenSpec.ofChange s with cond := some uptoSmall }

/-- 'jetsamlaw08.HeaderWrites', WHERE WHAT IT READS IS OF BULK AT MOST 1048576: true; the input reads as it did. -/
def headerWritesUptoRow : OpenClaim := { program := "ytgohfbfdhdepnaadoor", sum := "33709abb3f49cd7b403a1f423e89840428dc6a3a474203b6491b674d4f4275d5", func := "jetsam/jetsamlaw08.HeaderWrites", spec := "headerWrites", unfollowed := true, recurses := true, named := ["jetsam/header.blocks", "jetsam/header.rates", "jetsam/header.depths", "jetsam/coded.limits"], apart := false, laid := [("jetsam/coded.limits", laid_jetsam_coded_limits), ("jetsam/header.blocks", laid_jetsam_header_blocks), ("jetsam/header.rates", laid_jetsam_header_rates), ("jetsam/header.depths", laid_jetsam_header_depths)], narrowed := true }
def HeaderWritesUptoSaid : Prop := headerWritesUptoRow.holds Tryd.pinned (OpenSpec.upto headerWritesSpec)

/-- 'jetsamlaw08.HeaderMakes', WHERE WHAT IT READS IS OF BULK AT MOST 1048576: true; the input reads as it did. -/
def headerMakesUptoRow : OpenClaim := { program := "ytgohfbfdhdepnaadoor", sum := "33709abb3f49cd7b403a1f423e89840428dc6a3a474203b6491b674d4f4275d5", func := "jetsam/jetsamlaw08.HeaderMakes", spec := "headerMakes", unfollowed := true, recurses := true, named := ["jetsam/header.blocks", "jetsam/header.rates", "jetsam/header.depths", "jetsam/coded.limits"], apart := false, laid := [("jetsam/coded.limits", laid_jetsam_coded_limits), ("jetsam/header.blocks", laid_jetsam_header_blocks), ("jetsam/header.rates", laid_jetsam_header_rates), ("jetsam/header.depths", laid_jetsam_header_depths)], narrowed := true }
def HeaderMakesUptoSaid : Prop := headerMakesUptoRow.holds Tryd.pinned (OpenSpec.upto headerMakesSpec)

/-- 'jetsamlaw08.HeaderShort', WHERE WHAT IT READS IS OF BULK AT MOST 1048576: true; the input reads as it did. -/
def headerShortUptoRow : OpenClaim := { program := "ytgohfbfdhdepnaadoor", sum := "33709abb3f49cd7b403a1f423e89840428dc6a3a474203b6491b674d4f4275d5", func := "jetsam/jetsamlaw08.HeaderShort", spec := "headerShort", unfollowed := true, recurses := true, named := ["jetsam/header.blocks", "jetsam/header.rates", "jetsam/header.depths", "jetsam/coded.limits"], apart := false, laid := [("jetsam/coded.limits", laid_jetsam_coded_limits), ("jetsam/header.blocks", laid_jetsam_header_blocks), ("jetsam/header.rates", laid_jetsam_header_rates), ("jetsam/header.depths", laid_jetsam_header_depths)], narrowed := true }
def HeaderShortUptoSaid : Prop := headerShortUptoRow.holds Tryd.pinned (OpenSpec.upto headerShortSpec)

/-- 'jetsamlaw08.HeaderBack', WHERE WHAT IT READS IS OF BULK AT MOST 1048576: true; the input reads as it did. -/
def headerBackUptoRow : OpenClaim := { program := "ytgohfbfdhdepnaadoor", sum := "33709abb3f49cd7b403a1f423e89840428dc6a3a474203b6491b674d4f4275d5", func := "jetsam/jetsamlaw08.HeaderBack", spec := "headerBack", unfollowed := true, recurses := true, named := ["jetsam/header.blocks", "jetsam/header.rates", "jetsam/header.depths", "jetsam/coded.limits"], apart := false, laid := [("jetsam/coded.limits", laid_jetsam_coded_limits), ("jetsam/header.blocks", laid_jetsam_header_blocks), ("jetsam/header.rates", laid_jetsam_header_rates), ("jetsam/header.depths", laid_jetsam_header_depths)], narrowed := true }
def HeaderBackUptoSaid : Prop := headerBackUptoRow.holds Tryd.pinned (OpenSpec.upto headerBackSpec)

/-- 'jetsamlaw08.HeaderSees', WHERE WHAT IT READS IS OF BULK AT MOST 1048576: true; the input reads as it did. -/
def headerSeesUptoRow : OpenClaim := { program := "ytgohfbfdhdepnaadoor", sum := "33709abb3f49cd7b403a1f423e89840428dc6a3a474203b6491b674d4f4275d5", func := "jetsam/jetsamlaw08.HeaderSees", spec := "headerSees", unfollowed := true, recurses := true, named := ["jetsam/header.blocks", "jetsam/header.rates", "jetsam/header.depths", "jetsam/coded.limits"], apart := false, laid := [("jetsam/coded.limits", laid_jetsam_coded_limits), ("jetsam/header.blocks", laid_jetsam_header_blocks), ("jetsam/header.rates", laid_jetsam_header_rates), ("jetsam/header.depths", laid_jetsam_header_depths)], narrowed := true }
def HeaderSeesUptoSaid : Prop := headerSeesUptoRow.holds Tryd.pinned (OpenSpec.upto headerSeesSpec)

end Rows
end Go.Proofs.YtgohfbfdhdepnaaDoor
