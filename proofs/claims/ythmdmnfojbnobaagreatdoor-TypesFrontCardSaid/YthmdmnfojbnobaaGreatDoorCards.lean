/-
  DERIVED. GIVEN WITH THE SEED: THE CARDS: each row of YthmdmnfojbnobaaGreatDoorRows.lean that lists a variable, with what it lists TIED to the program's text (the seventh form; the later family's looks); each row that meets fmt, with fmt's text TOLD by the authors' own Lean function (tested against real Go, not proved from fmt's source: count such statements apart). THE CARD IS WHAT COUNTS. Prove the row's statement (the work); the ties are given (YthmdmnfojbnobaaGreatDoorTie.lean); close each card by the builder's one call (the guide's Derived/Test/ToyasCard.lean, 'card_holds'). Laid BY PROGRAM, IN A SANDBOX (cutbox-door.mjs). By AI agents, Wed Nov 11 2026. No macro, syntax, notation, axiom, sorry.
-/
import Derived.Test.YthmdmnfojbnobaaGreatDoorRows
import GoSem.ClaimSeven
namespace Go.Proofs.YthmdmnfojbnobaaGreatDoor
namespace Rows

/-- THE TIED CARD OF 'parlourlaw08.TypesRules'. -/
def typesRulesCard : Claim7 := { stood := { row := typesRulesRow, standIns := [], harness := (true, "6b34a234941d0e0ef2c5dc6021a67d54e90ed853510353d8c43a671eae467006"), looks := true }, kinds := [], alts := [], goes := true, laidByText := true, laidKinds := [.handle], laidTests := true, laidLooks := .later }
def TypesRulesCardSaid : Prop := Claim7.holds Tryz.pinned (.plain (OpenSpec.ofChange typesRulesSpec)) typesRulesCard

/-- THE TIED CARD OF 'parlourlaw08.TypesFront'. -/
def typesFrontCard : Claim7 := { stood := { row := typesFrontRow, standIns := [], harness := (true, "6b34a234941d0e0ef2c5dc6021a67d54e90ed853510353d8c43a671eae467006"), looks := true }, kinds := [], alts := [], goes := true, laidByText := true, laidKinds := [.handle], laidTests := true, laidLooks := .later }
def TypesFrontCardSaid : Prop := Claim7.holds Tryz.pinned (.plain (OpenSpec.ofChange typesFrontSpec)) typesFrontCard

/-- THE TIED CARD OF 'parlourlaw08.TypesPrinted'. -/
def typesPrintedCard : Claim7 := { stood := { row := typesPrintedRow, standIns := [], harness := (true, "6b34a234941d0e0ef2c5dc6021a67d54e90ed853510353d8c43a671eae467006"), looks := true }, kinds := [], alts := [], goes := true, laidByText := true, laidKinds := [.handle], laidTests := true, laidLooks := .later }
def TypesPrintedCardSaid : Prop := Claim7.holds Tryz.pinned (.plain (OpenSpec.ofChange typesPrintedSpec)) typesPrintedCard

/-- THE SECOND FORM's CARD OF 'parlourlaw08.TypesRules'. -/
def typesRulesUptoCard : Claim7 := { stood := { row := typesRulesUptoRow, standIns := [], harness := (true, "6b34a234941d0e0ef2c5dc6021a67d54e90ed853510353d8c43a671eae467006"), looks := true }, kinds := [], alts := [], goes := true, laidByText := true, laidKinds := [.handle], laidTests := true, laidLooks := .later }
def TypesRulesUptoCardSaid : Prop := Claim7.holds Tryz.pinned (.plain (OpenSpec.upto typesRulesSpec)) typesRulesUptoCard

/-- THE SECOND FORM's CARD OF 'parlourlaw08.TypesFront'. -/
def typesFrontUptoCard : Claim7 := { stood := { row := typesFrontUptoRow, standIns := [], harness := (true, "6b34a234941d0e0ef2c5dc6021a67d54e90ed853510353d8c43a671eae467006"), looks := true }, kinds := [], alts := [], goes := true, laidByText := true, laidKinds := [.handle], laidTests := true, laidLooks := .later }
def TypesFrontUptoCardSaid : Prop := Claim7.holds Tryz.pinned (.plain (OpenSpec.upto typesFrontSpec)) typesFrontUptoCard

/-- THE SECOND FORM's CARD OF 'parlourlaw08.TypesPrinted'. -/
def typesPrintedUptoCard : Claim7 := { stood := { row := typesPrintedUptoRow, standIns := [], harness := (true, "6b34a234941d0e0ef2c5dc6021a67d54e90ed853510353d8c43a671eae467006"), looks := true }, kinds := [], alts := [], goes := true, laidByText := true, laidKinds := [.handle], laidTests := true, laidLooks := .later }
def TypesPrintedUptoCardSaid : Prop := Claim7.holds Tryz.pinned (.plain (OpenSpec.upto typesPrintedSpec)) typesPrintedUptoCard
end Rows
end Go.Proofs.YthmdmnfojbnobaaGreatDoor
