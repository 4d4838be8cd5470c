/-
  NARROWER THAN 'FOR EVERY INPUT', by the rows' own cells (each row's printed sentence says how): TypesRules: loops, laid · TypesFront: laid · TypesPrinted: loops, laid.
  DERIVED. THE GIVEN ROWS OF THIS SEAT. 3 by the template 'for every input the law returns true; each argument reads behind the call as it read before'; 0 by the template 'total and deterministic' (their statements: YthmdmnfojbnobaaGreatDoorTotals.lean).
  GIVEN WITH THE SEED: the statements are not yours to turn. If you find one false, say at which input.
  Laid BY PROGRAM, IN A SANDBOX (cutbox-rows.mjs): the forced cells as the released guide's own fill.sh prints them over the translation f1fc38c8886f6259… (all of the seat's roots in one cut). By AI agents, Wed Nov 11 2026. No macro, syntax, notation, axiom, sorry.
-/
import Derived.Test.YthmdmnfojbnobaaGreatDoorChecked
import GoSem.Claim
import GoSem.ClaimJoined
import GoSem.ClaimMapViews
import Derived.JoinedTies
import Derived.KernelRfl
namespace Go.Proofs.YthmdmnfojbnobaaGreatDoor
/- THE CELL 'sum', in the pinned program and in every row, IS THE sha256 OF THE DUMP (.gsa) THAT YthmdmnfojbnobaaGreatDoorProg.lean LOADS. Nothing in Lean hashes anything: it is a label: what it is worth is what the hold of that sum in a sandbox is worth. -/
noncomputable def Tryz.pinned : Pinned := { name := "ythmdmnfojbnobaagreatdoor", sum := "f1fc38c8886f6259528df64bc407104beee49f7ab1e57cfec87600679c67f316", checked := Tryz.checked }
namespace Rows
def none {H : Type} : Left H := { results := [], args := [] }

/- WHAT THE LISTED PACKAGE-LEVEL VARIABLES READ AS WHEN THE CALL BEGINS. Each datum BY PROGRAM (the guide's laid-datum.mjs) off the statement by which the dump's own 'gosem.cut.vars' lays the variable. In a bare row this is a premise. The card (YthmdmnfojbnobaaGreatDoorCards.lean) ties it to the program's text. -/
def laid_errors_errorType {H : Type} : DataW H := .iface "internal/reflectlite.rtype" (.agg [.ptr (.lit (.string [101, 114, 114, 111, 114]))])

/-- 'parlourlaw08.TypesRules': WHATEVER THE INPUT: true; the input reads as it did. -/
def typesRulesSpec : ChangeSpec := { name := "typesRules", fn := fun _ => fun
  | [d1, d2, d3] => { results := [.lit (.bool true)], args := [d1, d2, d3] }
  | _ => none }
def typesRulesRow : OpenClaim := { program := "ythmdmnfojbnobaagreatdoor", sum := "f1fc38c8886f6259528df64bc407104beee49f7ab1e57cfec87600679c67f316", func := "parlour/parlourlaw08.TypesRules", spec := "typesRules", inPlace := ["internal/reflectlite.ValueOf", "(internal/reflectlite.Value).Type", "(internal/reflectlite.Value).IsNil", "internal/reflectlite.TypeOf", "(internal/reflectlite.Value).Elem", "(internal/reflectlite.Value).Set"], unfollowed := true, recurses := true, named := ["errors.errorType"], loops := true, leaving := true, apart := false, laid := [("errors.errorType", laid_errors_errorType)] }
def TypesRulesSaid : Prop := typesRulesRow.holds Tryz.pinned (OpenSpec.ofChange typesRulesSpec)

/-- ITS FALSE NEIGHBOUR: 'it returns false'. Refute it at one input. -/
def typesRulesWrong : ChangeSpec := { name := "typesRules", fn := fun _ => fun
  | [d1, d2, d3] => { results := [.lit (.bool false)], args := [d1, d2, d3] }
  | _ => none }
def TypesRulesWrongFalsely : Prop := typesRulesRow.holds Tryz.pinned (OpenSpec.ofChange typesRulesWrong)

/-- 'parlourlaw08.TypesFront': WHATEVER THE INPUT: true; the input reads as it did. -/
def typesFrontSpec : ChangeSpec := { name := "typesFront", fn := fun _ => fun
  | [d1, d2] => { results := [.lit (.bool true)], args := [d1, d2] }
  | _ => none }
def typesFrontRow : OpenClaim := { program := "ythmdmnfojbnobaagreatdoor", sum := "f1fc38c8886f6259528df64bc407104beee49f7ab1e57cfec87600679c67f316", func := "parlour/parlourlaw08.TypesFront", spec := "typesFront", inPlace := ["internal/reflectlite.ValueOf", "(internal/reflectlite.Value).Type", "(internal/reflectlite.Value).IsNil", "internal/reflectlite.TypeOf", "(internal/reflectlite.Value).Elem", "(internal/reflectlite.Value).Set"], unfollowed := true, recurses := true, named := ["errors.errorType"], leaving := true, apart := false, laid := [("errors.errorType", laid_errors_errorType)] }
def TypesFrontSaid : Prop := typesFrontRow.holds Tryz.pinned (OpenSpec.ofChange typesFrontSpec)

/-- ITS FALSE NEIGHBOUR: 'it returns false'. Refute it at one input. -/
def typesFrontWrong : ChangeSpec := { name := "typesFront", fn := fun _ => fun
  | [d1, d2] => { results := [.lit (.bool false)], args := [d1, d2] }
  | _ => none }
def TypesFrontWrongFalsely : Prop := typesFrontRow.holds Tryz.pinned (OpenSpec.ofChange typesFrontWrong)

/-- 'parlourlaw08.TypesPrinted': WHATEVER THE INPUT: true; the input reads as it did. -/
def typesPrintedSpec : ChangeSpec := { name := "typesPrinted", fn := fun _ => fun
  | [d1, d2, d3] => { results := [.lit (.bool true)], args := [d1, d2, d3] }
  | _ => none }
def typesPrintedRow : OpenClaim := { program := "ythmdmnfojbnobaagreatdoor", sum := "f1fc38c8886f6259528df64bc407104beee49f7ab1e57cfec87600679c67f316", func := "parlour/parlourlaw08.TypesPrinted", spec := "typesPrinted", inPlace := ["internal/reflectlite.ValueOf", "(internal/reflectlite.Value).Type", "(internal/reflectlite.Value).IsNil", "internal/reflectlite.TypeOf", "(internal/reflectlite.Value).Elem", "(internal/reflectlite.Value).Set"], unfollowed := true, recurses := true, named := ["errors.errorType"], loops := true, leaving := true, apart := false, laid := [("errors.errorType", laid_errors_errorType)] }
def TypesPrintedSaid : Prop := typesPrintedRow.holds Tryz.pinned (OpenSpec.ofChange typesPrintedSpec)

/-- ITS FALSE NEIGHBOUR: 'it returns false'. Refute it at one input. -/
def typesPrintedWrong : ChangeSpec := { name := "typesPrinted", fn := fun _ => fun
  | [d1, d2, d3] => { results := [.lit (.bool false)], args := [d1, d2, d3] }
  | _ => none }
def TypesPrintedWrongFalsely : Prop := typesPrintedRow.holds Tryz.pinned (OpenSpec.ofChange typesPrintedWrong)

/- THE SECOND FORM. 'bulk': how many values and letters a reading holds, each counted each time it is reached (what is shared counts as often as it is met; a slice's spare places count too). A statement '..UptoSaid' is the law's where the arguments, and the package variables that the reading takes, are together of bulk at most 1048576: NARROWER than '..Said'. Prove '..Said' where nothing that the law and all that it calls make is longer than what came in: it says more and counts as full. Else prove '..UptoSaid'. A law counts once. -/
mutual
def uptoBulk {H : Type} : DataW H → Nat
  | .lit (.string bytes) => bytes.length + 1
  | .lit _ => 1
  | .nil => 1
  | .ptr d => uptoBulk d + 1
  | .slice elems spare => uptoBulkAll elems + uptoBulkAll spare + 1
  | .agg parts => uptoBulkAll parts + 1
  | .iface _ d => uptoBulk d + 1
  | .map entries => uptoBulkEntries entries + 1
  | .held _ => 1
def uptoBulkAll {H : Type} : List (DataW H) → Nat
  | [] => 0
  | d :: r => uptoBulk d + uptoBulkAll r
def uptoBulkEntries {H : Type} : List (Lit × DataW H) → Nat
  | [] => 0
  | x :: r => uptoBulkEntry x + uptoBulkEntries r
def uptoBulkEntry {H : Type} : Lit × DataW H → Nat
  | (.string bytes, d) => bytes.length + uptoBulk d + 1
  | (_, d) => uptoBulk d + 1
 end
def uptoSmall : (H : Type) → List (DataW H) → Bool := fun _ ds => decide (uptoBulkAll ds ≤ 1048576)
def OpenSpec.upto (s : _root_.Go.ChangeSpec) : _root_.Go.OpenSpec := { _root_.Go.OpenSpec.ofChange s with cond := some uptoSmall }

/-- 'parlourlaw08.TypesRules', WHERE WHAT IT READS IS OF BULK AT MOST 1048576: true; the input reads as it did. -/
def typesRulesUptoRow : OpenClaim := { program := "ythmdmnfojbnobaagreatdoor", sum := "f1fc38c8886f6259528df64bc407104beee49f7ab1e57cfec87600679c67f316", func := "parlour/parlourlaw08.TypesRules", spec := "typesRules", inPlace := ["internal/reflectlite.ValueOf", "(internal/reflectlite.Value).Type", "(internal/reflectlite.Value).IsNil", "internal/reflectlite.TypeOf", "(internal/reflectlite.Value).Elem", "(internal/reflectlite.Value).Set"], unfollowed := true, recurses := true, named := ["errors.errorType"], loops := true, leaving := true, apart := false, laid := [("errors.errorType", laid_errors_errorType)], narrowed := true }
def TypesRulesUptoSaid : Prop := typesRulesUptoRow.holds Tryz.pinned (OpenSpec.upto typesRulesSpec)

/-- 'parlourlaw08.TypesFront', WHERE WHAT IT READS IS OF BULK AT MOST 1048576: true; the input reads as it did. -/
def typesFrontUptoRow : OpenClaim := { program := "ythmdmnfojbnobaagreatdoor", sum := "f1fc38c8886f6259528df64bc407104beee49f7ab1e57cfec87600679c67f316", func := "parlour/parlourlaw08.TypesFront", spec := "typesFront", inPlace := ["internal/reflectlite.ValueOf", "(internal/reflectlite.Value).Type", "(internal/reflectlite.Value).IsNil", "internal/reflectlite.TypeOf", "(internal/reflectlite.Value).Elem", "(internal/reflectlite.Value).Set"], unfollowed := true, recurses := true, named := ["errors.errorType"], leaving := true, apart := false, laid := [("errors.errorType", laid_errors_errorType)], narrowed := true }
def TypesFrontUptoSaid : Prop := typesFrontUptoRow.holds Tryz.pinned (OpenSpec.upto typesFrontSpec)

/-- 'parlourlaw08.TypesPrinted', WHERE WHAT IT READS IS OF BULK AT MOST 1048576: true; the input reads as it did. -/
def typesPrintedUptoRow : OpenClaim := { program := "ythmdmnfojbnobaagreatdoor", sum := "f1fc38c8886f6259528df64bc407104beee49f7ab1e57cfec87600679c67f316", func := "parlour/parlourlaw08.TypesPrinted", spec := "typesPrinted", inPlace := ["internal/reflectlite.ValueOf", "(internal/reflectlite.Value).Type", "(internal/reflectlite.Value).IsNil", "internal/reflectlite.TypeOf", "(internal/reflectlite.Value).Elem", "(internal/reflectlite.Value).Set"], unfollowed := true, recurses := true, named := ["errors.errorType"], loops := true, leaving := true, apart := false, laid := [("errors.errorType", laid_errors_errorType)], narrowed := true }
def TypesPrintedUptoSaid : Prop := typesPrintedUptoRow.holds Tryz.pinned (OpenSpec.upto typesPrintedSpec)

end Rows
end Go.Proofs.YthmdmnfojbnobaaGreatDoor
