/-
  DERIVED. GIVEN WITH THE SEED: THE CARDS: each row of YtjiopnjmklampaaDoorRows.lean that lists a variable, with what it lists TIED to the program's text (the seventh form; the later family's looks); each row that meets fmt, with fmt's text TOLD by the authors' own Lean function (tested against real Go, not proved from fmt's source: count such statements apart). THE CARD IS WHAT COUNTS. Prove the row's statement (the work); the ties are given (YtjiopnjmklampaaDoorTie.lean); close each card by the builder's one call (the guide's Derived/Test/ToyasCard.lean, 'card_holds'). Laid BY PROGRAM, IN A SANDBOX (cutbox-door.mjs). By AI agents, Wed Nov 11 2026. No macro, syntax, notation, axiom, sorry.
-/
import Derived.Test.YtjiopnjmklampaaDoorRows
import GoSem.ClaimSeven
namespace Go.Proofs.YtjiopnjmklampaaDoor
namespace Rows

/-- THE TIED CARD OF 'jetsamlaw03.CodedPuts'. -/
def codedPutsCard : Claim7 := { stood := { row := codedPutsRow, standIns := [], harness := (true, "d30a71d8683d14c48b656a53aae3c2903027411f9960288a35ad930c81d0f529"), looks := false }, kinds := [], alts := [], laidByText := true, laidKinds := [.data], laidTests := true, laidLooks := .later }
def CodedPutsCardSaid : Prop := Claim7.holds Tryd.pinned (.plain (OpenSpec.ofChange codedPutsSpec)) codedPutsCard

/-- THE TIED CARD OF 'jetsamlaw03.CodedBack'. -/
def codedBackCard : Claim7 := { stood := { row := codedBackRow, standIns := [], harness := (true, "d30a71d8683d14c48b656a53aae3c2903027411f9960288a35ad930c81d0f529"), looks := false }, kinds := [], alts := [], laidByText := true, laidKinds := [.data], laidTests := true, laidLooks := .later }
def CodedBackCardSaid : Prop := Claim7.holds Tryd.pinned (.plain (OpenSpec.ofChange codedBackSpec)) codedBackCard

/-- THE TIED CARD OF 'jetsamlaw03.CodedOrder'. -/
def codedOrderCard : Claim7 := { stood := { row := codedOrderRow, standIns := [], harness := (true, "d30a71d8683d14c48b656a53aae3c2903027411f9960288a35ad930c81d0f529"), looks := false }, kinds := [], alts := [], laidByText := true, laidKinds := [.data], laidTests := true, laidLooks := .later }
def CodedOrderCardSaid : Prop := Claim7.holds Tryd.pinned (.plain (OpenSpec.ofChange codedOrderSpec)) codedOrderCard

/-- THE TIED CARD OF 'jetsamlaw03.CodedInside'. -/
def codedInsideCard : Claim7 := { stood := { row := codedInsideRow, standIns := [], harness := (true, "d30a71d8683d14c48b656a53aae3c2903027411f9960288a35ad930c81d0f529"), looks := false }, kinds := [], alts := [], laidByText := true, laidKinds := [.data], laidTests := true, laidLooks := .later }
def CodedInsideCardSaid : Prop := Claim7.holds Tryd.pinned (.plain (OpenSpec.ofChange codedInsideSpec)) codedInsideCard

/-- THE SECOND FORM's CARD OF 'jetsamlaw03.CodedPuts'. -/
def codedPutsUptoCard : Claim7 := { stood := { row := codedPutsUptoRow, standIns := [], harness := (true, "d30a71d8683d14c48b656a53aae3c2903027411f9960288a35ad930c81d0f529"), looks := false }, kinds := [], alts := [], laidByText := true, laidKinds := [.data], laidTests := true, laidLooks := .later }
def CodedPutsUptoCardSaid : Prop := Claim7.holds Tryd.pinned (.plain (OpenSpec.upto codedPutsSpec)) codedPutsUptoCard

/-- THE SECOND FORM's CARD OF 'jetsamlaw03.CodedBack'. -/
def codedBackUptoCard : Claim7 := { stood := { row := codedBackUptoRow, standIns := [], harness := (true, "d30a71d8683d14c48b656a53aae3c2903027411f9960288a35ad930c81d0f529"), looks := false }, kinds := [], alts := [], laidByText := true, laidKinds := [.data], laidTests := true, laidLooks := .later }
def CodedBackUptoCardSaid : Prop := Claim7.holds Tryd.pinned (.plain (OpenSpec.upto codedBackSpec)) codedBackUptoCard

/-- THE SECOND FORM's CARD OF 'jetsamlaw03.CodedOrder'. -/
def codedOrderUptoCard : Claim7 := { stood := { row := codedOrderUptoRow, standIns := [], harness := (true, "d30a71d8683d14c48b656a53aae3c2903027411f9960288a35ad930c81d0f529"), looks := false }, kinds := [], alts := [], laidByText := true, laidKinds := [.data], laidTests := true, laidLooks := .later }
def CodedOrderUptoCardSaid : Prop := Claim7.holds Tryd.pinned (.plain (OpenSpec.upto codedOrderSpec)) codedOrderUptoCard

/-- THE SECOND FORM's CARD OF 'jetsamlaw03.CodedInside'. -/
def codedInsideUptoCard : Claim7 := { stood := { row := codedInsideUptoRow, standIns := [], harness := (true, "d30a71d8683d14c48b656a53aae3c2903027411f9960288a35ad930c81d0f529"), looks := false }, kinds := [], alts := [], laidByText := true, laidKinds := [.data], laidTests := true, laidLooks := .later }
def CodedInsideUptoCardSaid : Prop := Claim7.holds Tryd.pinned (.plain (OpenSpec.upto codedInsideSpec)) codedInsideUptoCard
end Rows
end Go.Proofs.YtjiopnjmklampaaDoor
