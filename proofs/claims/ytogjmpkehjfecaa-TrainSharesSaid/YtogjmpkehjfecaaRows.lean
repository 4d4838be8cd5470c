/-
  No cell of these rows narrows 'for every input' (looked for: loops, veiled, ifaces, maps, wideKeys, modest, calm, conditions, laid).
  DERIVED. THE GIVEN ROWS OF THIS SEAT. 3 by the template 'for every input the law returns true; each argument reads behind the call as it read before'; 0 by the template 'total and deterministic' (their statements: YtogjmpkehjfecaaTotals.lean).
  GIVEN WITH THE SEED: the statements are not yours to turn. If you find one false, say at which input.
  Laid BY PROGRAM, IN A SANDBOX (cutbox-rows.mjs): the forced cells as the released guide's own fill.sh prints them over the translation 337e37dd5f0b7df4… (all of the seat's roots in one cut). By AI agents, Wed Nov 11 2026. No macro, syntax, notation, axiom, sorry.
-/
import Derived.Test.YtogjmpkehjfecaaChecked
import GoSem.Claim
import GoSem.ClaimJoined
import GoSem.ClaimMapViews
import Derived.JoinedTies
import Derived.KernelRfl
namespace Go.Proofs.Ytogjmpkehjfecaa
/- THE CELL 'sum', in the pinned program and in every row, IS THE sha256 OF THE DUMP (.gsa) THAT YtogjmpkehjfecaaProg.lean LOADS. Nothing in Lean hashes anything: it is a label: what it is worth is what the hold of that sum in a sandbox is worth. -/
noncomputable def Try.pinned : Pinned := { name := "ytogjmpkehjfecaa", sum := "337e37dd5f0b7df418e04fee8c642c499e287f0d3809a00b74202e1b8f386956", checked := Try.checked }
namespace Rows
def none {H : Type} : Left H := { results := [], args := [] }

/-- 'parlourlaw29.TrainRuns': WHATEVER THE INPUT: true; the input reads as it did. -/
def trainRunsSpec : ChangeSpec := { name := "trainRuns", fn := fun _ => fun
  | [d1, d2, d3] => { results := [.lit (.bool true)], args := [d1, d2, d3] }
  | _ => none }
def trainRunsRow : OpenClaim := { program := "ytogjmpkehjfecaa", sum := "337e37dd5f0b7df418e04fee8c642c499e287f0d3809a00b74202e1b8f386956", func := "parlour/parlourlaw29.TrainRuns", spec := "trainRuns", unfollowed := true, recurses := true, apart := false }
def TrainRunsSaid : Prop := trainRunsRow.holds Try.pinned (OpenSpec.ofChange trainRunsSpec)

/-- ITS FALSE NEIGHBOUR: 'it returns false'. Refute it at one input. -/
def trainRunsWrong : ChangeSpec := { name := "trainRuns", fn := fun _ => fun
  | [d1, d2, d3] => { results := [.lit (.bool false)], args := [d1, d2, d3] }
  | _ => none }
def TrainRunsWrongFalsely : Prop := trainRunsRow.holds Try.pinned (OpenSpec.ofChange trainRunsWrong)

/-- 'parlourlaw29.TrainShares': WHATEVER THE INPUT: true; the input reads as it did. -/
def trainSharesSpec : ChangeSpec := { name := "trainShares", fn := fun _ => fun
  | [d1, d2, d3] => { results := [.lit (.bool true)], args := [d1, d2, d3] }
  | _ => none }
def trainSharesRow : OpenClaim := { program := "ytogjmpkehjfecaa", sum := "337e37dd5f0b7df418e04fee8c642c499e287f0d3809a00b74202e1b8f386956", func := "parlour/parlourlaw29.TrainShares", spec := "trainShares", unfollowed := true, recurses := true, apart := false }
def TrainSharesSaid : Prop := trainSharesRow.holds Try.pinned (OpenSpec.ofChange trainSharesSpec)

/-- ITS FALSE NEIGHBOUR: 'it returns false'. Refute it at one input. -/
def trainSharesWrong : ChangeSpec := { name := "trainShares", fn := fun _ => fun
  | [d1, d2, d3] => { results := [.lit (.bool false)], args := [d1, d2, d3] }
  | _ => none }
def TrainSharesWrongFalsely : Prop := trainSharesRow.holds Try.pinned (OpenSpec.ofChange trainSharesWrong)

/-- 'parlourlaw29.TrainNaming': WHATEVER THE INPUT: true; the input reads as it did. -/
def trainNamingSpec : ChangeSpec := { name := "trainNaming", fn := fun _ => fun
  | [d1, d2] => { results := [.lit (.bool true)], args := [d1, d2] }
  | _ => none }
def trainNamingRow : OpenClaim := { program := "ytogjmpkehjfecaa", sum := "337e37dd5f0b7df418e04fee8c642c499e287f0d3809a00b74202e1b8f386956", func := "parlour/parlourlaw29.TrainNaming", spec := "trainNaming", unfollowed := true, recurses := true, apart := false }
def TrainNamingSaid : Prop := trainNamingRow.holds Try.pinned (OpenSpec.ofChange trainNamingSpec)

/-- ITS FALSE NEIGHBOUR: 'it returns false'. Refute it at one input. -/
def trainNamingWrong : ChangeSpec := { name := "trainNaming", fn := fun _ => fun
  | [d1, d2] => { results := [.lit (.bool false)], args := [d1, d2] }
  | _ => none }
def TrainNamingWrongFalsely : Prop := trainNamingRow.holds Try.pinned (OpenSpec.ofChange trainNamingWrong)

/- THE SECOND FORM. 'bulk': how many values and letters a reading holds, each counted each time it is reached (what is shared counts as often as it is met; a slice's spare places count too). A statement '..UptoSaid' is the law's where the arguments, and the package variables that the reading takes, are together of bulk at most 1048576: NARROWER than '..Said'. Prove '..Said' where nothing that the law and all that it calls make is longer than what came in: it says more and counts as full. Else prove '..UptoSaid'. A law counts once. -/
mutual
def uptoBulk {H : Type} : DataW H → Nat
  | .lit (.string bytes) => bytes.length + 1
  | .lit _ => 1
  | .nil => 1
  | .ptr d => uptoBulk d + 1
  | .slice elems spare => uptoBulkAll elems + uptoBulkAll spare + 1
  | .agg parts => uptoBulkAll parts + 1
  | .iface _ d => uptoBulk d + 1
  | .map entries => uptoBulkEntries entries + 1
  | .held _ => 1
def uptoBulkAll {H : Type} : List (DataW H) → Nat
  | [] => 0
  | d :: r => uptoBulk d + uptoBulkAll r
def uptoBulkEntries {H : Type} : List (Lit × DataW H) → Nat
  | [] => 0
  | x :: r => uptoBulkEntry x + uptoBulkEntries r
def uptoBulkEntry {H : Type} : Lit × DataW H → Nat
  | (.string bytes, d) => bytes.length + uptoBulk d + 1
  | (_, d) => uptoBulk d + 1
 end
def uptoSmall : (H : Type) → List (DataW H) → Bool := fun _ ds => decide (uptoBulkAll ds ≤ 1048576)
def OpenSpec.upto (s : _root_.Go.ChangeSpec) : _root_.Go.OpenSpec := { _root_.Go.OpenSpec.ofChange s with cond := some uptoSmall }

/-- 'parlourlaw29.TrainRuns', WHERE WHAT IT READS IS OF BULK AT MOST 1048576: true; the input reads as it did. -/
def trainRunsUptoRow : OpenClaim := { program := "ytogjmpkehjfecaa", sum := "337e37dd5f0b7df418e04fee8c642c499e287f0d3809a00b74202e1b8f386956", func := "parlour/parlourlaw29.TrainRuns", spec := "trainRuns", unfollowed := true, recurses := true, apart := false, narrowed := true }
def TrainRunsUptoSaid : Prop := trainRunsUptoRow.holds Try.pinned (OpenSpec.upto trainRunsSpec)

/-- 'parlourlaw29.TrainShares', WHERE WHAT IT READS IS OF BULK AT MOST 1048576: true; the input reads as it did. -/
def trainSharesUptoRow : OpenClaim := { program := "ytogjmpkehjfecaa", sum := "337e37dd5f0b7df418e04fee8c642c499e287f0d3809a00b74202e1b8f386956", func := "parlour/parlourlaw29.TrainShares", spec := "trainShares", unfollowed := true, recurses := true, apart := false, narrowed := true }
def TrainSharesUptoSaid : Prop := trainSharesUptoRow.holds Try.pinned (OpenSpec.upto trainSharesSpec)

/-- 'parlourlaw29.TrainNaming', WHERE WHAT IT READS IS OF BULK AT MOST 1048576: true; the input reads as it did. -/
def trainNamingUptoRow : OpenClaim := { program := "ytogjmpkehjfecaa", sum := "337e37dd5f0b7df418e04fee8c642c499e287f0d3809a00b74202e1b8f386956", func := "parlour/parlourlaw29.TrainNaming", spec := "trainNaming", unfollowed := true, recurses := true, apart := false, narrowed := true }
def TrainNamingUptoSaid : Prop := trainNamingUptoRow.holds Try.pinned (OpenSpec.upto trainNamingSpec)

end Rows
end Go.Proofs.Ytogjmpkehjfecaa
