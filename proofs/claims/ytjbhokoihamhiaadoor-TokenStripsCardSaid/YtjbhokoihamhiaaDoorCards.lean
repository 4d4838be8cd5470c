/-
  DERIVED. GIVEN WITH THE SEED: THE CARDS: each row of YtjbhokoihamhiaaDoorRows.lean that lists a variable, with what it lists TIED to the program's text (the seventh form; the later family's looks); each row that meets fmt, with fmt's text TOLD by the authors' own Lean function (tested against real Go, not proved from fmt's source: count such statements apart). THE CARD IS WHAT COUNTS. Prove the row's statement (the work); the ties are given (YtjbhokoihamhiaaDoorTie.lean); close each card by the builder's one call (the guide's Derived/Test/ToyasCard.lean, 'card_holds'). Laid BY PROGRAM, IN A SANDBOX (cutbox-door.mjs). By AI agents, Wed Nov 11 2026. No macro, syntax, notation, axiom, sorry.
-/
import Derived.Test.YtjbhokoihamhiaaDoorRows
import GoSem.ClaimSeven
namespace Go.Proofs.YtjbhokoihamhiaaDoor
namespace Rows

/-- THE TIED CARD OF 'parlourlaw06.TokenChecks'. -/
def tokenChecksCard : Claim7 := { stood := { row := tokenChecksRow, standIns := [], harness := (true, "937f33c3de3408465ebfd8b4df8a5ccb6e74215f18f72f83c0f381bf869eff98"), looks := true }, kinds := [], alts := [], laidByText := true, laidKinds := [.handle, .data, .data], laidTests := true, laidLooks := .later }
def TokenChecksCardSaid : Prop := Claim7.holds Tryd.pinned (.plain (OpenSpec.ofChange tokenChecksSpec)) tokenChecksCard

/-- THE TIED CARD OF 'parlourlaw06.TokenScans'. -/
def tokenScansCard : Claim7 := { stood := { row := tokenScansRow, standIns := [], harness := (true, "937f33c3de3408465ebfd8b4df8a5ccb6e74215f18f72f83c0f381bf869eff98"), looks := true }, kinds := [], alts := [], laidByText := true, laidKinds := [.handle, .data, .data], laidTests := true, laidLooks := .later }
def TokenScansCardSaid : Prop := Claim7.holds Tryd.pinned (.plain (OpenSpec.ofChange tokenScansSpec)) tokenScansCard

/-- THE TIED CARD OF 'parlourlaw06.TokenPlaces'. -/
def tokenPlacesCard : Claim7 := { stood := { row := tokenPlacesRow, standIns := [], harness := (true, "937f33c3de3408465ebfd8b4df8a5ccb6e74215f18f72f83c0f381bf869eff98"), looks := true }, kinds := [], alts := [], laidByText := true, laidKinds := [.handle, .data, .data], laidTests := true, laidLooks := .later }
def TokenPlacesCardSaid : Prop := Claim7.holds Tryd.pinned (.plain (OpenSpec.ofChange tokenPlacesSpec)) tokenPlacesCard

/-- THE TIED CARD OF 'parlourlaw06.TokenKnown'. -/
def tokenKnownCard : Claim7 := { stood := { row := tokenKnownRow, standIns := [], harness := (true, "937f33c3de3408465ebfd8b4df8a5ccb6e74215f18f72f83c0f381bf869eff98"), looks := true }, kinds := [], alts := [], laidByText := true, laidKinds := [.handle, .data, .data], laidTests := true, laidLooks := .later }
def TokenKnownCardSaid : Prop := Claim7.holds Tryd.pinned (.plain (OpenSpec.ofChange tokenKnownSpec)) tokenKnownCard

/-- THE TIED CARD OF 'parlourlaw06.TokenBack'. -/
def tokenBackCard : Claim7 := { stood := { row := tokenBackRow, standIns := [], harness := (true, "937f33c3de3408465ebfd8b4df8a5ccb6e74215f18f72f83c0f381bf869eff98"), looks := true }, kinds := [], alts := [], laidByText := true, laidKinds := [.handle, .data, .data], laidTests := true, laidLooks := .later }
def TokenBackCardSaid : Prop := Claim7.holds Tryd.pinned (.plain (OpenSpec.ofChange tokenBackSpec)) tokenBackCard

/-- THE TIED CARD OF 'parlourlaw06.TokenJoins'. -/
def tokenJoinsCard : Claim7 := { stood := { row := tokenJoinsRow, standIns := [], harness := (true, "937f33c3de3408465ebfd8b4df8a5ccb6e74215f18f72f83c0f381bf869eff98"), looks := true }, kinds := [], alts := [], laidByText := true, laidKinds := [.handle, .data, .data], laidTests := true, laidLooks := .later }
def TokenJoinsCardSaid : Prop := Claim7.holds Tryd.pinned (.plain (OpenSpec.ofChange tokenJoinsSpec)) tokenJoinsCard

/-- THE TIED CARD OF 'parlourlaw06.TokenStrips'. -/
def tokenStripsCard : Claim7 := { stood := { row := tokenStripsRow, standIns := [], harness := (true, "937f33c3de3408465ebfd8b4df8a5ccb6e74215f18f72f83c0f381bf869eff98"), looks := true }, kinds := [], alts := [], laidByText := true, laidKinds := [.handle, .data, .data], laidTests := true, laidLooks := .later }
def TokenStripsCardSaid : Prop := Claim7.holds Tryd.pinned (.plain (OpenSpec.ofChange tokenStripsSpec)) tokenStripsCard

/-- THE SECOND FORM's CARD OF 'parlourlaw06.TokenChecks'. -/
def tokenChecksUptoCard : Claim7 := { stood := { row := tokenChecksUptoRow, standIns := [], harness := (true, "937f33c3de3408465ebfd8b4df8a5ccb6e74215f18f72f83c0f381bf869eff98"), looks := true }, kinds := [], alts := [], laidByText := true, laidKinds := [.handle, .data, .data], laidTests := true, laidLooks := .later }
def TokenChecksUptoCardSaid : Prop := Claim7.holds Tryd.pinned (.plain (OpenSpec.upto tokenChecksSpec)) tokenChecksUptoCard

/-- THE SECOND FORM's CARD OF 'parlourlaw06.TokenScans'. -/
def tokenScansUptoCard : Claim7 := { stood := { row := tokenScansUptoRow, standIns := [], harness := (true, "937f33c3de3408465ebfd8b4df8a5ccb6e74215f18f72f83c0f381bf869eff98"), looks := true }, kinds := [], alts := [], laidByText := true, laidKinds := [.handle, .data, .data], laidTests := true, laidLooks := .later }
def TokenScansUptoCardSaid : Prop := Claim7.holds Tryd.pinned (.plain (OpenSpec.upto tokenScansSpec)) tokenScansUptoCard

/-- THE SECOND FORM's CARD OF 'parlourlaw06.TokenPlaces'. -/
def tokenPlacesUptoCard : Claim7 := { stood := { row := tokenPlacesUptoRow, standIns := [], harness := (true, "937f33c3de3408465ebfd8b4df8a5ccb6e74215f18f72f83c0f381bf869eff98"), looks := true }, kinds := [], alts := [], laidByText := true, laidKinds := [.handle, .data, .data], laidTests := true, laidLooks := .later }
def TokenPlacesUptoCardSaid : Prop := Claim7.holds Tryd.pinned (.plain (OpenSpec.upto tokenPlacesSpec)) tokenPlacesUptoCard

/-- THE SECOND FORM's CARD OF 'parlourlaw06.TokenKnown'. -/
def tokenKnownUptoCard : Claim7 := { stood := { row := tokenKnownUptoRow, standIns := [], harness := (true, "937f33c3de3408465ebfd8b4df8a5ccb6e74215f18f72f83c0f381bf869eff98"), looks := true }, kinds := [], alts := [], laidByText := true, laidKinds := [.handle, .data, .data], laidTests := true, laidLooks := .later }
def TokenKnownUptoCardSaid : Prop := Claim7.holds Tryd.pinned (.plain (OpenSpec.upto tokenKnownSpec)) tokenKnownUptoCard

/-- THE SECOND FORM's CARD OF 'parlourlaw06.TokenBack'. -/
def tokenBackUptoCard : Claim7 := { stood := { row := tokenBackUptoRow, standIns := [], harness := (true, "937f33c3de3408465ebfd8b4df8a5ccb6e74215f18f72f83c0f381bf869eff98"), looks := true }, kinds := [], alts := [], laidByText := true, laidKinds := [.handle, .data, .data], laidTests := true, laidLooks := .later }
def TokenBackUptoCardSaid : Prop := Claim7.holds Tryd.pinned (.plain (OpenSpec.upto tokenBackSpec)) tokenBackUptoCard

/-- THE SECOND FORM's CARD OF 'parlourlaw06.TokenJoins'. -/
def tokenJoinsUptoCard : Claim7 := { stood := { row := tokenJoinsUptoRow, standIns := [], harness := (true, "937f33c3de3408465ebfd8b4df8a5ccb6e74215f18f72f83c0f381bf869eff98"), looks := true }, kinds := [], alts := [], laidByText := true, laidKinds := [.handle, .data, .data], laidTests := true, laidLooks := .later }
def TokenJoinsUptoCardSaid : Prop := Claim7.holds Tryd.pinned (.plain (OpenSpec.upto tokenJoinsSpec)) tokenJoinsUptoCard

/-- THE SECOND FORM's CARD OF 'parlourlaw06.TokenStrips'. -/
def tokenStripsUptoCard : Claim7 := { stood := { row := tokenStripsUptoRow, standIns := [], harness := (true, "937f33c3de3408465ebfd8b4df8a5ccb6e74215f18f72f83c0f381bf869eff98"), looks := true }, kinds := [], alts := [], laidByText := true, laidKinds := [.handle, .data, .data], laidTests := true, laidLooks := .later }
def TokenStripsUptoCardSaid : Prop := Claim7.holds Tryd.pinned (.plain (OpenSpec.upto tokenStripsSpec)) tokenStripsUptoCard
end Rows
end Go.Proofs.YtjbhokoihamhiaaDoor
