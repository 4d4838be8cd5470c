/-
  DERIVED. GIVEN WITH THE SEED: THE CARDS: each row of YtogjmpkehjfecaaGreatDoorRows.lean that lists a variable, with what it lists TIED to the program's text (the seventh form; the later family's looks); each row that meets fmt, with fmt's text TOLD by the authors' own Lean function (tested against real Go, not proved from fmt's source: count such statements apart). THE CARD IS WHAT COUNTS. Prove the row's statement (the work); the ties are given (YtogjmpkehjfecaaGreatDoorTie.lean); close each card by the builder's one call (the guide's Derived/Test/ToyasCard.lean, 'card_holds'). Laid BY PROGRAM, IN A SANDBOX (cutbox-door.mjs). By AI agents, Wed Nov 11 2026. No macro, syntax, notation, axiom, sorry.
-/
import Derived.Test.YtogjmpkehjfecaaGreatDoorRows
import GoSem.ClaimSeven
namespace Go.Proofs.YtogjmpkehjfecaaGreatDoor
namespace Rows

/-- THE TIED CARD OF 'parlourlaw29.TrainNames'. -/
def trainNamesCard : Claim7 := { stood := { row := trainNamesRow, standIns := [], harness := (true, "5c5957da5c07c4906c7762e1a15bdd35dfdcdf6db3ac5ca0077f50193b48f0ef"), looks := true }, kinds := [], alts := [], laidByText := true, laidKinds := [.data], laidTests := true, laidLooks := .later }
def TrainNamesCardSaid : Prop := Claim7.holds Tryz.pinned (.plain (OpenSpec.ofChange trainNamesSpec)) trainNamesCard

/-- THE TIED CARD OF 'parlourlaw29.TrainStates'. -/
def trainStatesCard : Claim7 := { stood := { row := trainStatesRow, standIns := [], harness := (true, "5c5957da5c07c4906c7762e1a15bdd35dfdcdf6db3ac5ca0077f50193b48f0ef"), looks := true }, kinds := [], alts := [], laidByText := true, laidKinds := [.data], laidTests := true, laidLooks := .later }
def TrainStatesCardSaid : Prop := Claim7.holds Tryz.pinned (.plain (OpenSpec.ofChange trainStatesSpec)) trainStatesCard

/-- THE TIED CARD OF 'parlourlaw29.TrainParts'. -/
def trainPartsCard : Claim7 := { stood := { row := trainPartsRow, standIns := [], harness := (true, "5c5957da5c07c4906c7762e1a15bdd35dfdcdf6db3ac5ca0077f50193b48f0ef"), looks := true }, kinds := [], alts := [], laidByText := true, laidKinds := [.data], laidTests := true, laidLooks := .later }
def TrainPartsCardSaid : Prop := Claim7.holds Tryz.pinned (.plain (OpenSpec.ofChange trainPartsSpec)) trainPartsCard

/-- THE SECOND FORM's CARD OF 'parlourlaw29.TrainNames'. -/
def trainNamesUptoCard : Claim7 := { stood := { row := trainNamesUptoRow, standIns := [], harness := (true, "5c5957da5c07c4906c7762e1a15bdd35dfdcdf6db3ac5ca0077f50193b48f0ef"), looks := true }, kinds := [], alts := [], laidByText := true, laidKinds := [.data], laidTests := true, laidLooks := .later }
def TrainNamesUptoCardSaid : Prop := Claim7.holds Tryz.pinned (.plain (OpenSpec.upto trainNamesSpec)) trainNamesUptoCard

/-- THE SECOND FORM's CARD OF 'parlourlaw29.TrainStates'. -/
def trainStatesUptoCard : Claim7 := { stood := { row := trainStatesUptoRow, standIns := [], harness := (true, "5c5957da5c07c4906c7762e1a15bdd35dfdcdf6db3ac5ca0077f50193b48f0ef"), looks := true }, kinds := [], alts := [], laidByText := true, laidKinds := [.data], laidTests := true, laidLooks := .later }
def TrainStatesUptoCardSaid : Prop := Claim7.holds Tryz.pinned (.plain (OpenSpec.upto trainStatesSpec)) trainStatesUptoCard

/-- THE SECOND FORM's CARD OF 'parlourlaw29.TrainParts'. -/
def trainPartsUptoCard : Claim7 := { stood := { row := trainPartsUptoRow, standIns := [], harness := (true, "5c5957da5c07c4906c7762e1a15bdd35dfdcdf6db3ac5ca0077f50193b48f0ef"), looks := true }, kinds := [], alts := [], laidByText := true, laidKinds := [.data], laidTests := true, laidLooks := .later }
def TrainPartsUptoCardSaid : Prop := Claim7.holds Tryz.pinned (.plain (OpenSpec.upto trainPartsSpec)) trainPartsUptoCard
end Rows
end Go.Proofs.YtogjmpkehjfecaaGreatDoor
