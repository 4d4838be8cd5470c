/-
  DERIVED. GIVEN WITH THE SEED: THE CARDS: each row of YtcejichidnlicaaGreatDoorRows.lean that lists a variable, with what it lists TIED to the program's text (the seventh form; the later family's looks); each row that meets fmt, with fmt's text TOLD by the authors' own Lean function (tested against real Go, not proved from fmt's source: count such statements apart). THE CARD IS WHAT COUNTS. Prove the row's statement (the work); the ties are given (YtcejichidnlicaaGreatDoorTie.lean); close each card by the builder's one call (the guide's Derived/Test/ToyasCard.lean, 'card_holds'). Laid BY PROGRAM, IN A SANDBOX (cutbox-door.mjs). By AI agents, Wed Nov 11 2026. No macro, syntax, notation, axiom, sorry.
-/
import Derived.Test.YtcejichidnlicaaGreatDoorRows
import GoSem.ClaimSeven
namespace Go.Proofs.YtcejichidnlicaaGreatDoor
namespace Rows

/-- THE TIED CARD OF 'parlourlaw09.EvalValues'. -/
def evalValuesCard : Claim7 := { stood := { row := evalValuesRow, standIns := [], harness := (true, "ae76ca6e7283a2b351e9ca9deb9aef537b41ef349a7ef11d45745907ddd76b1c"), looks := true }, kinds := [], alts := [], goes := true, laidByText := true, laidKinds := [.handle], laidTests := true, laidLooks := .later }
def EvalValuesCardSaid : Prop := Claim7.holds Tryz.pinned (.plain (OpenSpec.ofChange evalValuesSpec)) evalValuesCard

/-- THE TIED CARD OF 'parlourlaw09.EvalKnown'. -/
def evalKnownCard : Claim7 := { stood := { row := evalKnownRow, standIns := [], harness := (true, "ae76ca6e7283a2b351e9ca9deb9aef537b41ef349a7ef11d45745907ddd76b1c"), looks := true }, kinds := [], alts := [], goes := true, laidByText := true, laidKinds := [.handle], laidTests := true, laidLooks := .later }
def EvalKnownCardSaid : Prop := Claim7.holds Tryz.pinned (.plain (OpenSpec.ofChange evalKnownSpec)) evalKnownCard

/-- THE TIED CARD OF 'parlourlaw09.EvalDivides'. -/
def evalDividesCard : Claim7 := { stood := { row := evalDividesRow, standIns := [], harness := (true, "ae76ca6e7283a2b351e9ca9deb9aef537b41ef349a7ef11d45745907ddd76b1c"), looks := true }, kinds := [], alts := [], goes := true, laidByText := true, laidKinds := [.handle], laidTests := true, laidLooks := .later }
def EvalDividesCardSaid : Prop := Claim7.holds Tryz.pinned (.plain (OpenSpec.ofChange evalDividesSpec)) evalDividesCard

/-- THE TIED CARD OF 'parlourlaw09.EvalPuts'. -/
def evalPutsCard : Claim7 := { stood := { row := evalPutsRow, standIns := [], harness := (true, "ae76ca6e7283a2b351e9ca9deb9aef537b41ef349a7ef11d45745907ddd76b1c"), looks := true }, kinds := [], alts := [], goes := true, laidByText := true, laidKinds := [.handle], laidTests := true, laidLooks := .later }
def EvalPutsCardSaid : Prop := Claim7.holds Tryz.pinned (.plain (OpenSpec.ofChange evalPutsSpec)) evalPutsCard

/-- THE SECOND FORM's CARD OF 'parlourlaw09.EvalValues'. -/
def evalValuesUptoCard : Claim7 := { stood := { row := evalValuesUptoRow, standIns := [], harness := (true, "ae76ca6e7283a2b351e9ca9deb9aef537b41ef349a7ef11d45745907ddd76b1c"), looks := true }, kinds := [], alts := [], goes := true, laidByText := true, laidKinds := [.handle], laidTests := true, laidLooks := .later }
def EvalValuesUptoCardSaid : Prop := Claim7.holds Tryz.pinned (.plain (OpenSpec.upto evalValuesSpec)) evalValuesUptoCard

/-- THE SECOND FORM's CARD OF 'parlourlaw09.EvalKnown'. -/
def evalKnownUptoCard : Claim7 := { stood := { row := evalKnownUptoRow, standIns := [], harness := (true, "ae76ca6e7283a2b351e9ca9deb9aef537b41ef349a7ef11d45745907ddd76b1c"), looks := true }, kinds := [], alts := [], goes := true, laidByText := true, laidKinds := [.handle], laidTests := true, laidLooks := .later }
def EvalKnownUptoCardSaid : Prop := Claim7.holds Tryz.pinned (.plain (OpenSpec.upto evalKnownSpec)) evalKnownUptoCard

/-- THE SECOND FORM's CARD OF 'parlourlaw09.EvalDivides'. -/
def evalDividesUptoCard : Claim7 := { stood := { row := evalDividesUptoRow, standIns := [], harness := (true, "ae76ca6e7283a2b351e9ca9deb9aef537b41ef349a7ef11d45745907ddd76b1c"), looks := true }, kinds := [], alts := [], goes := true, laidByText := true, laidKinds := [.handle], laidTests := true, laidLooks := .later }
def EvalDividesUptoCardSaid : Prop := Claim7.holds Tryz.pinned (.plain (OpenSpec.upto evalDividesSpec)) evalDividesUptoCard

/-- THE SECOND FORM's CARD OF 'parlourlaw09.EvalPuts'. -/
def evalPutsUptoCard : Claim7 := { stood := { row := evalPutsUptoRow, standIns := [], harness := (true, "ae76ca6e7283a2b351e9ca9deb9aef537b41ef349a7ef11d45745907ddd76b1c"), looks := true }, kinds := [], alts := [], goes := true, laidByText := true, laidKinds := [.handle], laidTests := true, laidLooks := .later }
def EvalPutsUptoCardSaid : Prop := Claim7.holds Tryz.pinned (.plain (OpenSpec.upto evalPutsSpec)) evalPutsUptoCard
end Rows
end Go.Proofs.YtcejichidnlicaaGreatDoor
