/-
  DERIVED. GIVEN WITH THE SEED: THE CARDS: each row of YtibhhebfenkeaaaDoorRows.lean that lists a variable, with what it lists TIED to the program's text (the seventh form; the later family's looks); each row that meets fmt, with fmt's text TOLD by the authors' own Lean function (tested against real Go, not proved from fmt's source: count such statements apart). THE CARD IS WHAT COUNTS. Prove the row's statement (the work); the ties are given (YtibhhebfenkeaaaDoorTie.lean); close each card by the builder's one call (the guide's Derived/Test/ToyasCard.lean, 'card_holds'). Laid BY PROGRAM, IN A SANDBOX (cutbox-door.mjs). By AI agents, Wed Nov 11 2026. No macro, syntax, notation, axiom, sorry.
-/
import Derived.Test.YtibhhebfenkeaaaDoorRows
import GoSem.ClaimSeven
namespace Go.Proofs.YtibhhebfenkeaaaDoor
namespace Rows

/-- THE TIED CARD OF 'jetsamlaw04.DigestTells'. -/
def digestTellsCard : Claim7 := { stood := { row := digestTellsRow, standIns := [], harness := (true, "2247fdecb68bd8566da7b3bf3d8ce6e07d016002cedb763699d50cd2ff3a5ace"), looks := false }, kinds := [], alts := [], laidByText := true, laidKinds := [.data, .data], laidTests := true, laidLooks := .later }
def DigestTellsCardSaid : Prop := Claim7.holds Tryd.pinned (.plain (OpenSpec.ofChange digestTellsSpec)) digestTellsCard

/-- THE TIED CARD OF 'jetsamlaw04.DigestBytes'. -/
def digestBytesCard : Claim7 := { stood := { row := digestBytesRow, standIns := [], harness := (true, "2247fdecb68bd8566da7b3bf3d8ce6e07d016002cedb763699d50cd2ff3a5ace"), looks := false }, kinds := [], alts := [], laidByText := true, laidKinds := [.data, .data], laidTests := true, laidLooks := .later }
def DigestBytesCardSaid : Prop := Claim7.holds Tryd.pinned (.plain (OpenSpec.ofChange digestBytesSpec)) digestBytesCard

/-- THE TIED CARD OF 'jetsamlaw04.DigestSizes'. -/
def digestSizesCard : Claim7 := { stood := { row := digestSizesRow, standIns := [], harness := (true, "2247fdecb68bd8566da7b3bf3d8ce6e07d016002cedb763699d50cd2ff3a5ace"), looks := false }, kinds := [], alts := [], laidByText := true, laidKinds := [.data, .data], laidTests := true, laidLooks := .later }
def DigestSizesCardSaid : Prop := Claim7.holds Tryd.pinned (.plain (OpenSpec.ofChange digestSizesSpec)) digestSizesCard

/-- THE TIED CARD OF 'jetsamlaw04.DigestParts'. -/
def digestPartsCard : Claim7 := { stood := { row := digestPartsRow, standIns := [], harness := (true, "2247fdecb68bd8566da7b3bf3d8ce6e07d016002cedb763699d50cd2ff3a5ace"), looks := false }, kinds := [], alts := [], laidByText := true, laidKinds := [.data, .data], laidTests := true, laidLooks := .later }
def DigestPartsCardSaid : Prop := Claim7.holds Tryd.pinned (.plain (OpenSpec.ofChange digestPartsSpec)) digestPartsCard

/-- THE TIED CARD OF 'jetsamlaw04.DigestNil'. -/
def digestNilCard : Claim7 := { stood := { row := digestNilRow, standIns := [], harness := (true, "2247fdecb68bd8566da7b3bf3d8ce6e07d016002cedb763699d50cd2ff3a5ace"), looks := false }, kinds := [], alts := [], laidByText := true, laidKinds := [.data, .data], laidTests := true, laidLooks := .later }
def DigestNilCardSaid : Prop := Claim7.holds Tryd.pinned (.plain (OpenSpec.ofChange digestNilSpec)) digestNilCard

/-- THE SECOND FORM's CARD OF 'jetsamlaw04.DigestTells'. -/
def digestTellsUptoCard : Claim7 := { stood := { row := digestTellsUptoRow, standIns := [], harness := (true, "2247fdecb68bd8566da7b3bf3d8ce6e07d016002cedb763699d50cd2ff3a5ace"), looks := false }, kinds := [], alts := [], laidByText := true, laidKinds := [.data, .data], laidTests := true, laidLooks := .later }
def DigestTellsUptoCardSaid : Prop := Claim7.holds Tryd.pinned (.plain (OpenSpec.upto digestTellsSpec)) digestTellsUptoCard

/-- THE SECOND FORM's CARD OF 'jetsamlaw04.DigestBytes'. -/
def digestBytesUptoCard : Claim7 := { stood := { row := digestBytesUptoRow, standIns := [], harness := (true, "2247fdecb68bd8566da7b3bf3d8ce6e07d016002cedb763699d50cd2ff3a5ace"), looks := false }, kinds := [], alts := [], laidByText := true, laidKinds := [.data, .data], laidTests := true, laidLooks := .later }
def DigestBytesUptoCardSaid : Prop := Claim7.holds Tryd.pinned (.plain (OpenSpec.upto digestBytesSpec)) digestBytesUptoCard

/-- THE SECOND FORM's CARD OF 'jetsamlaw04.DigestSizes'. -/
def digestSizesUptoCard : Claim7 := { stood := { row := digestSizesUptoRow, standIns := [], harness := (true, "2247fdecb68bd8566da7b3bf3d8ce6e07d016002cedb763699d50cd2ff3a5ace"), looks := false }, kinds := [], alts := [], laidByText := true, laidKinds := [.data, .data], laidTests := true, laidLooks := .later }
def DigestSizesUptoCardSaid : Prop := Claim7.holds Tryd.pinned (.plain (OpenSpec.upto digestSizesSpec)) digestSizesUptoCard

/-- THE SECOND FORM's CARD OF 'jetsamlaw04.DigestParts'. -/
def digestPartsUptoCard : Claim7 := { stood := { row := digestPartsUptoRow, standIns := [], harness := (true, "2247fdecb68bd8566da7b3bf3d8ce6e07d016002cedb763699d50cd2ff3a5ace"), looks := false }, kinds := [], alts := [], laidByText := true, laidKinds := [.data, .data], laidTests := true, laidLooks := .later }
def DigestPartsUptoCardSaid : Prop := Claim7.holds Tryd.pinned (.plain (OpenSpec.upto digestPartsSpec)) digestPartsUptoCard

/-- THE SECOND FORM's CARD OF 'jetsamlaw04.DigestNil'. -/
def digestNilUptoCard : Claim7 := { stood := { row := digestNilUptoRow, standIns := [], harness := (true, "2247fdecb68bd8566da7b3bf3d8ce6e07d016002cedb763699d50cd2ff3a5ace"), looks := false }, kinds := [], alts := [], laidByText := true, laidKinds := [.data, .data], laidTests := true, laidLooks := .later }
def DigestNilUptoCardSaid : Prop := Claim7.holds Tryd.pinned (.plain (OpenSpec.upto digestNilSpec)) digestNilUptoCard
end Rows
end Go.Proofs.YtibhhebfenkeaaaDoor
