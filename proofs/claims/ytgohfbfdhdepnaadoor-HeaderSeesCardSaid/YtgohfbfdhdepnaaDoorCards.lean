/-
  DERIVED. GIVEN WITH THE SEED: THE CARDS: each row of YtgohfbfdhdepnaaDoorRows.lean that lists a variable, with what it lists TIED to the program's text (the seventh form; the later family's looks); each row that meets fmt, with fmt's text TOLD by the authors' own Lean function (tested against real Go, not proved from fmt's source: count such statements apart). THE CARD IS WHAT COUNTS. Prove the row's statement (the work); the ties are given (YtgohfbfdhdepnaaDoorTie.lean); close each card by the builder's one call (the guide's Derived/Test/ToyasCard.lean, 'card_holds'). Laid BY PROGRAM, IN A SANDBOX (cutbox-door.mjs). By AI agents, Wed Nov 11 2026. No macro, syntax, notation, axiom, sorry.
-/
import Derived.Test.YtgohfbfdhdepnaaDoorRows
import GoSem.ClaimSeven
namespace Go.Proofs.YtgohfbfdhdepnaaDoor
namespace Rows

/-- THE TIED CARD OF 'jetsamlaw08.HeaderWrites'. -/
def headerWritesCard : Claim7 := { stood := { row := headerWritesRow, standIns := [], harness := (true, "182f3ec5c4887d86abac53ebbc80ae69a7fdf3d75db46c7a88f5ed0e3821d217"), looks := false }, kinds := [], alts := [], laidByText := true, laidKinds := [.data, .widerDeep, .widerDeep, .widerDeep], laidTests := true, laidLooks := .later }
def HeaderWritesCardSaid : Prop := Claim7.holds Tryd.pinned (.plain (OpenSpec.ofChange headerWritesSpec)) headerWritesCard

/-- THE TIED CARD OF 'jetsamlaw08.HeaderMakes'. -/
def headerMakesCard : Claim7 := { stood := { row := headerMakesRow, standIns := [], harness := (true, "182f3ec5c4887d86abac53ebbc80ae69a7fdf3d75db46c7a88f5ed0e3821d217"), looks := false }, kinds := [], alts := [], laidByText := true, laidKinds := [.data, .widerDeep, .widerDeep, .widerDeep], laidTests := true, laidLooks := .later }
def HeaderMakesCardSaid : Prop := Claim7.holds Tryd.pinned (.plain (OpenSpec.ofChange headerMakesSpec)) headerMakesCard

/-- THE TIED CARD OF 'jetsamlaw08.HeaderShort'. -/
def headerShortCard : Claim7 := { stood := { row := headerShortRow, standIns := [], harness := (true, "182f3ec5c4887d86abac53ebbc80ae69a7fdf3d75db46c7a88f5ed0e3821d217"), looks := false }, kinds := [], alts := [], laidByText := true, laidKinds := [.data, .widerDeep, .widerDeep, .widerDeep], laidTests := true, laidLooks := .later }
def HeaderShortCardSaid : Prop := Claim7.holds Tryd.pinned (.plain (OpenSpec.ofChange headerShortSpec)) headerShortCard

/-- THE TIED CARD OF 'jetsamlaw08.HeaderBack'. -/
def headerBackCard : Claim7 := { stood := { row := headerBackRow, standIns := [], harness := (true, "182f3ec5c4887d86abac53ebbc80ae69a7fdf3d75db46c7a88f5ed0e3821d217"), looks := false }, kinds := [], alts := [], laidByText := true, laidKinds := [.data, .widerDeep, .widerDeep, .widerDeep], laidTests := true, laidLooks := .later }
def HeaderBackCardSaid : Prop := Claim7.holds Tryd.pinned (.plain (OpenSpec.ofChange headerBackSpec)) headerBackCard

/-- THE TIED CARD OF 'jetsamlaw08.HeaderSees'. -/
def headerSeesCard : Claim7 := { stood := { row := headerSeesRow, standIns := [], harness := (true, "182f3ec5c4887d86abac53ebbc80ae69a7fdf3d75db46c7a88f5ed0e3821d217"), looks := false }, kinds := [], alts := [], laidByText := true, laidKinds := [.data, .widerDeep, .widerDeep, .widerDeep], laidTests := true, laidLooks := .later }
def HeaderSeesCardSaid : Prop := Claim7.holds Tryd.pinned (.plain (OpenSpec.ofChange headerSeesSpec)) headerSeesCard

/-- THE SECOND FORM's CARD OF 'jetsamlaw08.HeaderWrites'. -/
def headerWritesUptoCard : Claim7 := { stood := { row := headerWritesUptoRow, standIns := [], harness := (true, "182f3ec5c4887d86abac53ebbc80ae69a7fdf3d75db46c7a88f5ed0e3821d217"), looks := false }, kinds := [], alts := [], laidByText := true, laidKinds := [.data, .widerDeep, .widerDeep, .widerDeep], laidTests := true, laidLooks := .later }
def HeaderWritesUptoCardSaid : Prop := Claim7.holds Tryd.pinned (.plain (OpenSpec.upto headerWritesSpec)) headerWritesUptoCard

/-- THE SECOND FORM's CARD OF 'jetsamlaw08.HeaderMakes'. -/
def headerMakesUptoCard : Claim7 := { stood := { row := headerMakesUptoRow, standIns := [], harness := (true, "182f3ec5c4887d86abac53ebbc80ae69a7fdf3d75db46c7a88f5ed0e3821d217"), looks := false }, kinds := [], alts := [], laidByText := true, laidKinds := [.data, .widerDeep, .widerDeep, .widerDeep], laidTests := true, laidLooks := .later }
def HeaderMakesUptoCardSaid : Prop := Claim7.holds Tryd.pinned (.plain (OpenSpec.upto headerMakesSpec)) headerMakesUptoCard

/-- THE SECOND FORM's CARD OF 'jetsamlaw08.HeaderShort'. -/
def headerShortUptoCard : Claim7 := { stood := { row := headerShortUptoRow, standIns := [], harness := (true, "182f3ec5c4887d86abac53ebbc80ae69a7fdf3d75db46c7a88f5ed0e3821d217"), looks := false }, kinds := [], alts := [], laidByText := true, laidKinds := [.data, .widerDeep, .widerDeep, .widerDeep], laidTests := true, laidLooks := .later }
def HeaderShortUptoCardSaid : Prop := Claim7.holds Tryd.pinned (.plain (OpenSpec.upto headerShortSpec)) headerShortUptoCard

/-- THE SECOND FORM's CARD OF 'jetsamlaw08.HeaderBack'. -/
def headerBackUptoCard : Claim7 := { stood := { row := headerBackUptoRow, standIns := [], harness := (true, "182f3ec5c4887d86abac53ebbc80ae69a7fdf3d75db46c7a88f5ed0e3821d217"), looks := false }, kinds := [], alts := [], laidByText := true, laidKinds := [.data, .widerDeep, .widerDeep, .widerDeep], laidTests := true, laidLooks := .later }
def HeaderBackUptoCardSaid : Prop := Claim7.holds Tryd.pinned (.plain (OpenSpec.upto headerBackSpec)) headerBackUptoCard

/-- THE SECOND FORM's CARD OF 'jetsamlaw08.HeaderSees'. -/
def headerSeesUptoCard : Claim7 := { stood := { row := headerSeesUptoRow, standIns := [], harness := (true, "182f3ec5c4887d86abac53ebbc80ae69a7fdf3d75db46c7a88f5ed0e3821d217"), looks := false }, kinds := [], alts := [], laidByText := true, laidKinds := [.data, .widerDeep, .widerDeep, .widerDeep], laidTests := true, laidLooks := .later }
def HeaderSeesUptoCardSaid : Prop := Claim7.holds Tryd.pinned (.plain (OpenSpec.upto headerSeesSpec)) headerSeesUptoCard
end Rows
end Go.Proofs.YtgohfbfdhdepnaaDoor
