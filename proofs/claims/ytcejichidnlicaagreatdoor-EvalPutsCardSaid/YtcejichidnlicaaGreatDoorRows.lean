/-
  NARROWER THAN 'FOR EVERY INPUT', by the rows' own cells (each row's printed sentence says how): EvalValues: loops, laid · EvalKnown: laid · EvalDivides: laid · EvalPuts: loops, laid.
  DERIVED. THE GIVEN ROWS OF THIS SEAT. 4 by the template 'for every input the law returns true; each argument reads behind the call as it read before'; 0 by the template 'total and deterministic' (their statements: YtcejichidnlicaaGreatDoorTotals.lean).
  GIVEN WITH THE SEED: the statements are not yours to turn. If you find one false, say at which input.
  Laid BY PROGRAM, IN A SANDBOX (cutbox-rows.mjs): the forced cells as the released guide's own fill.sh prints them over the translation eb1d221fa2cb64f0… (all of the seat's roots in one cut). By AI agents, Wed Nov 11 2026. No macro, syntax, notation, axiom, sorry.
-/
import Derived.Test.YtcejichidnlicaaGreatDoorChecked
import GoSem.Claim
import GoSem.ClaimJoined
import GoSem.ClaimMapViews
import Derived.JoinedTies
import Derived.KernelRfl
namespace Go.Proofs.YtcejichidnlicaaGreatDoor
/- THE CELL 'sum', in the pinned program and in every row, IS THE sha256 OF THE DUMP (.gsa) THAT YtcejichidnlicaaGreatDoorProg.lean LOADS. Nothing in Lean hashes anything: it is a label: what it is worth is what the hold of that sum in a sandbox is worth. -/
noncomputable def Tryz.pinned : Pinned := { name := "ytcejichidnlicaagreatdoor", sum := "eb1d221fa2cb64f08aea89227455158c54e015c389b207df47cb51dbcc861f58", checked := Tryz.checked }
namespace Rows
def none {H : Type} : Left H := { results := [], args := [] }

/- WHAT THE LISTED PACKAGE-LEVEL VARIABLES READ AS WHEN THE CALL BEGINS. Each datum BY PROGRAM (the guide's laid-datum.mjs) off the statement by which the dump's own 'gosem.cut.vars' lays the variable. In a bare row this is a premise. The card (YtcejichidnlicaaGreatDoorCards.lean) ties it to the program's text. -/
def laid_errors_errorType {H : Type} : DataW H := .iface "internal/reflectlite.rtype" (.agg [.ptr (.lit (.string [101, 114, 114, 111, 114]))])

/-- 'parlourlaw09.EvalValues': WHATEVER THE INPUT: true; the input reads as it did. -/
def evalValuesSpec : ChangeSpec := { name := "evalValues", fn := fun _ => fun
  | [d1, d2, d3] => { results := [.lit (.bool true)], args := [d1, d2, d3] }
  | _ => none }
def evalValuesRow : OpenClaim := { program := "ytcejichidnlicaagreatdoor", sum := "eb1d221fa2cb64f08aea89227455158c54e015c389b207df47cb51dbcc861f58", func := "parlour/parlourlaw09.EvalValues", spec := "evalValues", inPlace := ["internal/reflectlite.ValueOf", "(internal/reflectlite.Value).Type", "(internal/reflectlite.Value).IsNil", "internal/reflectlite.TypeOf", "(internal/reflectlite.Value).Elem", "(internal/reflectlite.Value).Set"], unfollowed := true, recurses := true, named := ["errors.errorType"], loops := true, leaving := true, apart := false, laid := [("errors.errorType", laid_errors_errorType)] }
def EvalValuesSaid : Prop := evalValuesRow.holds Tryz.pinned (OpenSpec.ofChange evalValuesSpec)

/-- ITS FALSE NEIGHBOUR: 'it returns false'. Refute it at one input. -/
def evalValuesWrong : ChangeSpec := { name := "evalValues", fn := fun _ => fun
  | [d1, d2, d3] => { results := [.lit (.bool false)], args := [d1, d2, d3] }
  | _ => none }
def EvalValuesWrongFalsely : Prop := evalValuesRow.holds Tryz.pinned (OpenSpec.ofChange evalValuesWrong)

/-- 'parlourlaw09.EvalKnown': WHATEVER THE INPUT: true; the input reads as it did. -/
def evalKnownSpec : ChangeSpec := { name := "evalKnown", fn := fun _ => fun
  | [] => { results := [.lit (.bool true)], args := [] }
  | _ => none }
def evalKnownRow : OpenClaim := { program := "ytcejichidnlicaagreatdoor", sum := "eb1d221fa2cb64f08aea89227455158c54e015c389b207df47cb51dbcc861f58", func := "parlour/parlourlaw09.EvalKnown", spec := "evalKnown", inPlace := ["internal/reflectlite.ValueOf", "(internal/reflectlite.Value).Type", "(internal/reflectlite.Value).IsNil", "internal/reflectlite.TypeOf", "(internal/reflectlite.Value).Elem", "(internal/reflectlite.Value).Set"], unfollowed := true, recurses := true, named := ["errors.errorType"], leaving := true, apart := false, laid := [("errors.errorType", laid_errors_errorType)] }
def EvalKnownSaid : Prop := evalKnownRow.holds Tryz.pinned (OpenSpec.ofChange evalKnownSpec)

/-- ITS FALSE NEIGHBOUR: 'it returns false'. Refute it at one input. -/
def evalKnownWrong : ChangeSpec := { name := "evalKnown", fn := fun _ => fun
  | [] => { results := [.lit (.bool false)], args := [] }
  | _ => none }
def EvalKnownWrongFalsely : Prop := evalKnownRow.holds Tryz.pinned (OpenSpec.ofChange evalKnownWrong)

/-- 'parlourlaw09.EvalDivides': WHATEVER THE INPUT: true; the input reads as it did. -/
def evalDividesSpec : ChangeSpec := { name := "evalDivides", fn := fun _ => fun
  | [d1, d2] => { results := [.lit (.bool true)], args := [d1, d2] }
  | _ => none }
def evalDividesRow : OpenClaim := { program := "ytcejichidnlicaagreatdoor", sum := "eb1d221fa2cb64f08aea89227455158c54e015c389b207df47cb51dbcc861f58", func := "parlour/parlourlaw09.EvalDivides", spec := "evalDivides", inPlace := ["internal/reflectlite.ValueOf", "(internal/reflectlite.Value).Type", "(internal/reflectlite.Value).IsNil", "internal/reflectlite.TypeOf", "(internal/reflectlite.Value).Elem", "(internal/reflectlite.Value).Set"], unfollowed := true, recurses := true, named := ["errors.errorType"], leaving := true, apart := false, laid := [("errors.errorType", laid_errors_errorType)] }
def EvalDividesSaid : Prop := evalDividesRow.holds Tryz.pinned (OpenSpec.ofChange evalDividesSpec)

/-- ITS FALSE NEIGHBOUR: 'it returns false'. Refute it at one input. -/
def evalDividesWrong : ChangeSpec := { name := "evalDivides", fn := fun _ => fun
  | [d1, d2] => { results := [.lit (.bool false)], args := [d1, d2] }
  | _ => none }
def EvalDividesWrongFalsely : Prop := evalDividesRow.holds Tryz.pinned (OpenSpec.ofChange evalDividesWrong)

/-- 'parlourlaw09.EvalPuts': WHATEVER THE INPUT: true; the input reads as it did. -/
def evalPutsSpec : ChangeSpec := { name := "evalPuts", fn := fun _ => fun
  | [d1, d2, d3, d4] => { results := [.lit (.bool true)], args := [d1, d2, d3, d4] }
  | _ => none }
def evalPutsRow : OpenClaim := { program := "ytcejichidnlicaagreatdoor", sum := "eb1d221fa2cb64f08aea89227455158c54e015c389b207df47cb51dbcc861f58", func := "parlour/parlourlaw09.EvalPuts", spec := "evalPuts", inPlace := ["internal/reflectlite.ValueOf", "(internal/reflectlite.Value).Type", "(internal/reflectlite.Value).IsNil", "internal/reflectlite.TypeOf", "(internal/reflectlite.Value).Elem", "(internal/reflectlite.Value).Set"], unfollowed := true, recurses := true, named := ["errors.errorType"], loops := true, leaving := true, apart := false, laid := [("errors.errorType", laid_errors_errorType)] }
def EvalPutsSaid : Prop := evalPutsRow.holds Tryz.pinned (OpenSpec.ofChange evalPutsSpec)

/-- ITS FALSE NEIGHBOUR: 'it returns false'. Refute it at one input. -/
def evalPutsWrong : ChangeSpec := { name := "evalPuts", fn := fun _ => fun
  | [d1, d2, d3, d4] => { results := [.lit (.bool false)], args := [d1, d2, d3, d4] }
  | _ => none }
def EvalPutsWrongFalsely : Prop := evalPutsRow.holds Tryz.pinned (OpenSpec.ofChange evalPutsWrong)

/- THE SECOND FORM. 'bulk': how many values and letters a reading holds, each counted each time it is reached (what is shared counts as often as it is met; a slice's spare places count too). A statement '..UptoSaid' is the law's where the arguments, and the package variables that the reading takes, are together of bulk at most 1048576: NARROWER than '..Said'. Prove '..Said' where nothing that the law and all that it calls make is longer than what came in: it says more and counts as full. Else prove '..UptoSaid'. A law counts once. -/
mutual
def uptoBulk {H : Type} : DataW H → Nat
  | .lit (.string bytes) => bytes.length + 1
  | .lit _ => 1
  | .nil => 1
  | .ptr d => uptoBulk d + 1
  | .slice elems spare => uptoBulkAll elems + uptoBulkAll spare + 1
  | .agg parts => uptoBulkAll parts + 1
  | .iface _ d => uptoBulk d + 1
  | .map entries => uptoBulkEntries entries + 1
  | .held _ => 1
def uptoBulkAll {H : Type} : List (DataW H) → Nat
  | [] => 0
  | d :: r => uptoBulk d + uptoBulkAll r
def uptoBulkEntries {H : Type} : List (Lit × DataW H) → Nat
  | [] => 0
  | x :: r => uptoBulkEntry x + uptoBulkEntries r
def uptoBulkEntry {H : Type} : Lit × DataW H → Nat
  | (.string bytes, d) => bytes.length + uptoBulk d + 1
  | (_, d) => uptoBulk d + 1
 end
def uptoSmall : (H : Type) → List (DataW H) → Bool := fun _ ds => decide (uptoBulkAll ds ≤ 1048576)
def OpenSpec.upto (s : _root_.Go.ChangeSpec) : _root_.Go.OpenSpec := { _root_.Go.OpenSpec.ofChange s with cond := some uptoSmall }

/-- 'parlourlaw09.EvalValues', WHERE WHAT IT READS IS OF BULK AT MOST 1048576: true; the input reads as it did. -/
def evalValuesUptoRow : OpenClaim := { program := "ytcejichidnlicaagreatdoor", sum := "eb1d221fa2cb64f08aea89227455158c54e015c389b207df47cb51dbcc861f58", func := "parlour/parlourlaw09.EvalValues", spec := "evalValues", inPlace := ["internal/reflectlite.ValueOf", "(internal/reflectlite.Value).Type", "(internal/reflectlite.Value).IsNil", "internal/reflectlite.TypeOf", "(internal/reflectlite.Value).Elem", "(internal/reflectlite.Value).Set"], unfollowed := true, recurses := true, named := ["errors.errorType"], loops := true, leaving := true, apart := false, laid := [("errors.errorType", laid_errors_errorType)], narrowed := true }
def EvalValuesUptoSaid : Prop := evalValuesUptoRow.holds Tryz.pinned (OpenSpec.upto evalValuesSpec)

/-- 'parlourlaw09.EvalKnown', WHERE WHAT IT READS IS OF BULK AT MOST 1048576: true; the input reads as it did. -/
def evalKnownUptoRow : OpenClaim := { program := "ytcejichidnlicaagreatdoor", sum := "eb1d221fa2cb64f08aea89227455158c54e015c389b207df47cb51dbcc861f58", func := "parlour/parlourlaw09.EvalKnown", spec := "evalKnown", inPlace := ["internal/reflectlite.ValueOf", "(internal/reflectlite.Value).Type", "(internal/reflectlite.Value).IsNil", "internal/reflectlite.TypeOf", "(internal/reflectlite.Value).Elem", "(internal/reflectlite.Value).Set"], unfollowed := true, recurses := true, named := ["errors.errorType"], leaving := true, apart := false, laid := [("errors.errorType", laid_errors_errorType)], narrowed := true }
def EvalKnownUptoSaid : Prop := evalKnownUptoRow.holds Tryz.pinned (OpenSpec.upto evalKnownSpec)

/-- 'parlourlaw09.EvalDivides', WHERE WHAT IT READS IS OF BULK AT MOST 1048576: true; the input reads as it did. -/
def evalDividesUptoRow : OpenClaim := { program := "ytcejichidnlicaagreatdoor", sum := "eb1d221fa2cb64f08aea89227455158c54e015c389b207df47cb51dbcc861f58", func := "parlour/parlourlaw09.EvalDivides", spec := "evalDivides", inPlace := ["internal/reflectlite.ValueOf", "(internal/reflectlite.Value).Type", "(internal/reflectlite.Value).IsNil", "internal/reflectlite.TypeOf", "(internal/reflectlite.Value).Elem", "(internal/reflectlite.Value).Set"], unfollowed := true, recurses := true, named := ["errors.errorType"], leaving := true, apart := false, laid := [("errors.errorType", laid_errors_errorType)], narrowed := true }
def EvalDividesUptoSaid : Prop := evalDividesUptoRow.holds Tryz.pinned (OpenSpec.upto evalDividesSpec)

/-- 'parlourlaw09.EvalPuts', WHERE WHAT IT READS IS OF BULK AT MOST 1048576: true; the input reads as it did. -/
def evalPutsUptoRow : OpenClaim := { program := "ytcejichidnlicaagreatdoor", sum := "eb1d221fa2cb64f08aea89227455158c54e015c389b207df47cb51dbcc861f58", func := "parlour/parlourlaw09.EvalPuts", spec := "evalPuts", inPlace := ["internal/reflectlite.ValueOf", "(internal/reflectlite.Value).Type", "(internal/reflectlite.Value).IsNil", "internal/reflectlite.TypeOf", "(internal/reflectlite.Value).Elem", "(internal/reflectlite.Value).Set"], unfollowed := true, recurses := true, named := ["errors.errorType"], loops := true, leaving := true, apart := false, laid := [("errors.errorType", laid_errors_errorType)], narrowed := true }
def EvalPutsUptoSaid : Prop := evalPutsUptoRow.holds Tryz.pinned (OpenSpec.upto evalPutsSpec)

end Rows
end Go.Proofs.YtcejichidnlicaaGreatDoor
