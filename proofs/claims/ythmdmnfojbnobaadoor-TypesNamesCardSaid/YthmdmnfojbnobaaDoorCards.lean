/-
  DERIVED. GIVEN WITH THE SEED: THE CARDS: each row of YthmdmnfojbnobaaDoorRows.lean that lists a variable, with what it lists TIED to the program's text (the seventh form; the later family's looks); each row that meets fmt, with fmt's text TOLD by the authors' own Lean function (tested against real Go, not proved from fmt's source: count such statements apart). THE CARD IS WHAT COUNTS. Prove the row's statement (the work); the ties are given (YthmdmnfojbnobaaDoorTie.lean); close each card by the builder's one call (the guide's Derived/Test/ToyasCard.lean, 'card_holds'). Laid BY PROGRAM, IN A SANDBOX (cutbox-door.mjs). By AI agents, Wed Nov 11 2026. No macro, syntax, notation, axiom, sorry.
-/
import Derived.Test.YthmdmnfojbnobaaDoorRows
import GoSem.ClaimSeven
namespace Go.Proofs.YthmdmnfojbnobaaDoor
namespace Rows

/-- THE TIED CARD OF 'parlourlaw08.TypesKnown'. -/
def typesKnownCard : Claim7 := { stood := { row := typesKnownRow, standIns := [], harness := (true, "20992bf115bacb5a220ec6b6ac112c1681b9675060f08eeb02950fe8d4005a31"), looks := true }, kinds := [], alts := [], goes := true, laidByText := true, laidKinds := [.handle], laidTests := true, laidLooks := .later }
def TypesKnownCardSaid : Prop := Claim7.holds Tryd.pinned (.plain (OpenSpec.ofChange typesKnownSpec)) typesKnownCard

/-- THE TIED CARD OF 'parlourlaw08.TypesNames'. -/
def typesNamesCard : Claim7 := { stood := { row := typesNamesRow, standIns := [], harness := (true, "20992bf115bacb5a220ec6b6ac112c1681b9675060f08eeb02950fe8d4005a31"), looks := true }, kinds := [], alts := [], goes := true, laidByText := true, laidKinds := [.handle], laidTests := true, laidLooks := .later }
def TypesNamesCardSaid : Prop := Claim7.holds Tryd.pinned (.plain (OpenSpec.ofChange typesNamesSpec)) typesNamesCard

/-- THE SECOND FORM's CARD OF 'parlourlaw08.TypesKnown'. -/
def typesKnownUptoCard : Claim7 := { stood := { row := typesKnownUptoRow, standIns := [], harness := (true, "20992bf115bacb5a220ec6b6ac112c1681b9675060f08eeb02950fe8d4005a31"), looks := true }, kinds := [], alts := [], goes := true, laidByText := true, laidKinds := [.handle], laidTests := true, laidLooks := .later }
def TypesKnownUptoCardSaid : Prop := Claim7.holds Tryd.pinned (.plain (OpenSpec.upto typesKnownSpec)) typesKnownUptoCard

/-- THE SECOND FORM's CARD OF 'parlourlaw08.TypesNames'. -/
def typesNamesUptoCard : Claim7 := { stood := { row := typesNamesUptoRow, standIns := [], harness := (true, "20992bf115bacb5a220ec6b6ac112c1681b9675060f08eeb02950fe8d4005a31"), looks := true }, kinds := [], alts := [], goes := true, laidByText := true, laidKinds := [.handle], laidTests := true, laidLooks := .later }
def TypesNamesUptoCardSaid : Prop := Claim7.holds Tryd.pinned (.plain (OpenSpec.upto typesNamesSpec)) typesNamesUptoCard
end Rows
end Go.Proofs.YthmdmnfojbnobaaDoor
