/-
  DERIVED. GIVEN WITH THE SEED: THE CARDS: each row of YtghnjgemjiekgaaDoorRows.lean that lists a variable, with what it lists TIED to the program's text (the seventh form; the later family's looks); each row that meets fmt, with fmt's text TOLD by the authors' own Lean function (tested against real Go, not proved from fmt's source: count such statements apart). THE CARD IS WHAT COUNTS. Prove the row's statement (the work); the ties are given (YtghnjgemjiekgaaDoorTie.lean); close each card by the builder's one call (the guide's Derived/Test/ToyasCard.lean, 'card_holds'). Laid BY PROGRAM, IN A SANDBOX (cutbox-door.mjs). By AI agents, Wed Nov 11 2026. No macro, syntax, notation, axiom, sorry.
-/
import Derived.Test.YtghnjgemjiekgaaDoorRows
import GoSem.ClaimSeven
namespace Go.Proofs.YtghnjgemjiekgaaDoor
namespace Rows

/-- THE TIED CARD OF 'jetsamlaw06.PredictTells'. -/
def predictTellsCard : Claim7 := { stood := { row := predictTellsRow, standIns := [], harness := (true, "bee9e43b15b7281b050c1da4cd1f9a45824f3c415c203895ddf0adc4f80b0996"), looks := false }, kinds := [], alts := [], laidByText := true, laidKinds := [.data], laidTests := true, laidLooks := .later }
def PredictTellsCardSaid : Prop := Claim7.holds Tryd.pinned (.plain (OpenSpec.ofChange predictTellsSpec)) predictTellsCard

/-- THE TIED CARD OF 'jetsamlaw06.PredictFixed'. -/
def predictFixedCard : Claim7 := { stood := { row := predictFixedRow, standIns := [], harness := (true, "bee9e43b15b7281b050c1da4cd1f9a45824f3c415c203895ddf0adc4f80b0996"), looks := false }, kinds := [], alts := [], laidByText := true, laidKinds := [.data], laidTests := true, laidLooks := .later }
def PredictFixedCardSaid : Prop := Claim7.holds Tryd.pinned (.plain (OpenSpec.ofChange predictFixedSpec)) predictFixedCard

/-- THE TIED CARD OF 'jetsamlaw06.PredictAdds'. -/
def predictAddsCard : Claim7 := { stood := { row := predictAddsRow, standIns := [], harness := (true, "bee9e43b15b7281b050c1da4cd1f9a45824f3c415c203895ddf0adc4f80b0996"), looks := false }, kinds := [], alts := [], laidByText := true, laidKinds := [.data], laidTests := true, laidLooks := .later }
def PredictAddsCardSaid : Prop := Claim7.holds Tryd.pinned (.plain (OpenSpec.ofChange predictAddsSpec)) predictAddsCard

/-- THE TIED CARD OF 'jetsamlaw06.PredictRestores'. -/
def predictRestoresCard : Claim7 := { stood := { row := predictRestoresRow, standIns := [], harness := (true, "bee9e43b15b7281b050c1da4cd1f9a45824f3c415c203895ddf0adc4f80b0996"), looks := false }, kinds := [], alts := [], laidByText := true, laidKinds := [.data], laidTests := true, laidLooks := .later }
def PredictRestoresCardSaid : Prop := Claim7.holds Tryd.pinned (.plain (OpenSpec.ofChange predictRestoresSpec)) predictRestoresCard

/-- THE TIED CARD OF 'jetsamlaw06.PredictBack'. -/
def predictBackCard : Claim7 := { stood := { row := predictBackRow, standIns := [], harness := (true, "bee9e43b15b7281b050c1da4cd1f9a45824f3c415c203895ddf0adc4f80b0996"), looks := false }, kinds := [], alts := [], laidByText := true, laidKinds := [.data], laidTests := true, laidLooks := .later }
def PredictBackCardSaid : Prop := Claim7.holds Tryd.pinned (.plain (OpenSpec.ofChange predictBackSpec)) predictBackCard

/-- THE SECOND FORM's CARD OF 'jetsamlaw06.PredictTells'. -/
def predictTellsUptoCard : Claim7 := { stood := { row := predictTellsUptoRow, standIns := [], harness := (true, "bee9e43b15b7281b050c1da4cd1f9a45824f3c415c203895ddf0adc4f80b0996"), looks := false }, kinds := [], alts := [], laidByText := true, laidKinds := [.data], laidTests := true, laidLooks := .later }
def PredictTellsUptoCardSaid : Prop := Claim7.holds Tryd.pinned (.plain (OpenSpec.upto predictTellsSpec)) predictTellsUptoCard

/-- THE SECOND FORM's CARD OF 'jetsamlaw06.PredictFixed'. -/
def predictFixedUptoCard : Claim7 := { stood := { row := predictFixedUptoRow, standIns := [], harness := (true, "bee9e43b15b7281b050c1da4cd1f9a45824f3c415c203895ddf0adc4f80b0996"), looks := false }, kinds := [], alts := [], laidByText := true, laidKinds := [.data], laidTests := true, laidLooks := .later }
def PredictFixedUptoCardSaid : Prop := Claim7.holds Tryd.pinned (.plain (OpenSpec.upto predictFixedSpec)) predictFixedUptoCard

/-- THE SECOND FORM's CARD OF 'jetsamlaw06.PredictAdds'. -/
def predictAddsUptoCard : Claim7 := { stood := { row := predictAddsUptoRow, standIns := [], harness := (true, "bee9e43b15b7281b050c1da4cd1f9a45824f3c415c203895ddf0adc4f80b0996"), looks := false }, kinds := [], alts := [], laidByText := true, laidKinds := [.data], laidTests := true, laidLooks := .later }
def PredictAddsUptoCardSaid : Prop := Claim7.holds Tryd.pinned (.plain (OpenSpec.upto predictAddsSpec)) predictAddsUptoCard

/-- THE SECOND FORM's CARD OF 'jetsamlaw06.PredictRestores'. -/
def predictRestoresUptoCard : Claim7 := { stood := { row := predictRestoresUptoRow, standIns := [], harness := (true, "bee9e43b15b7281b050c1da4cd1f9a45824f3c415c203895ddf0adc4f80b0996"), looks := false }, kinds := [], alts := [], laidByText := true, laidKinds := [.data], laidTests := true, laidLooks := .later }
def PredictRestoresUptoCardSaid : Prop := Claim7.holds Tryd.pinned (.plain (OpenSpec.upto predictRestoresSpec)) predictRestoresUptoCard

/-- THE SECOND FORM's CARD OF 'jetsamlaw06.PredictBack'. -/
def predictBackUptoCard : Claim7 := { stood := { row := predictBackUptoRow, standIns := [], harness := (true, "bee9e43b15b7281b050c1da4cd1f9a45824f3c415c203895ddf0adc4f80b0996"), looks := false }, kinds := [], alts := [], laidByText := true, laidKinds := [.data], laidTests := true, laidLooks := .later }
def PredictBackUptoCardSaid : Prop := Claim7.holds Tryd.pinned (.plain (OpenSpec.upto predictBackSpec)) predictBackUptoCard
end Rows
end Go.Proofs.YtghnjgemjiekgaaDoor
