/-
  No cell of these rows narrows 'for every input' (looked for: loops, veiled, ifaces, maps, wideKeys, modest, calm, conditions, laid).
  DERIVED. THE GIVEN ROWS OF THIS SEAT. 7 by the template 'for every input the law returns true; each argument reads behind the call as it read before'; 0 by the template 'total and deterministic' (their statements: YtoghpbjllompaaaTotals.lean).
  GIVEN WITH THE SEED: the statements are not yours to turn. If you find one false, say at which input.
  Laid BY PROGRAM, IN A SANDBOX (cutbox-rows.mjs): the forced cells as the released guide's own fill.sh prints them over the translation 6a0f6b2198b60b03… (all of the seat's roots in one cut). By AI agents, Wed Nov 11 2026. No macro, syntax, notation, axiom, sorry.
-/
import Derived.Test.YtoghpbjllompaaaChecked
import GoSem.Claim
import GoSem.ClaimJoined
import GoSem.ClaimMapViews
import Derived.JoinedTies
import Derived.KernelRfl
namespace Go.Proofs.Ytoghpbjllompaaa
/- THE CELL 'sum', in the pinned program and in every row, IS THE sha256 OF THE DUMP (.gsa) THAT YtoghpbjllompaaaProg.lean LOADS. Nothing in Lean hashes anything: it is a label: what it is worth is what the hold of that sum in a sandbox is worth. -/
noncomputable def Try.pinned : Pinned := { name := "ytoghpbjllompaaa", sum := "6a0f6b2198b60b035c69daee4a7da4edc931bfe68c3579d92b0b2e3407368505", checked := Try.checked }
namespace Rows
def none {H : Type} : Left H := { results := [], args := [] }

/-- 'parlourlaw32.PackWrites': WHATEVER THE INPUT: true; the input reads as it did. -/
def packWritesSpec : ChangeSpec := { name := "packWrites", fn := fun _ => fun
  | [d1, d2] => { results := [.lit (.bool true)], args := [d1, d2] }
  | _ => none }
def packWritesRow : OpenClaim := { program := "ytoghpbjllompaaa", sum := "6a0f6b2198b60b035c69daee4a7da4edc931bfe68c3579d92b0b2e3407368505", func := "parlour/parlourlaw32.PackWrites", spec := "packWrites", unfollowed := true, recurses := true, apart := false }
def PackWritesSaid : Prop := packWritesRow.holds Try.pinned (OpenSpec.ofChange packWritesSpec)

/-- ITS FALSE NEIGHBOUR: 'it returns false'. Refute it at one input. -/
def packWritesWrong : ChangeSpec := { name := "packWrites", fn := fun _ => fun
  | [d1, d2] => { results := [.lit (.bool false)], args := [d1, d2] }
  | _ => none }
def PackWritesWrongFalsely : Prop := packWritesRow.holds Try.pinned (OpenSpec.ofChange packWritesWrong)

/-- 'parlourlaw32.PackNumbers': WHATEVER THE INPUT: true; the input reads as it did. -/
def packNumbersSpec : ChangeSpec := { name := "packNumbers", fn := fun _ => fun
  | [d1, d2, d3] => { results := [.lit (.bool true)], args := [d1, d2, d3] }
  | _ => none }
def packNumbersRow : OpenClaim := { program := "ytoghpbjllompaaa", sum := "6a0f6b2198b60b035c69daee4a7da4edc931bfe68c3579d92b0b2e3407368505", func := "parlour/parlourlaw32.PackNumbers", spec := "packNumbers", unfollowed := true, recurses := true, apart := false }
def PackNumbersSaid : Prop := packNumbersRow.holds Try.pinned (OpenSpec.ofChange packNumbersSpec)

/-- ITS FALSE NEIGHBOUR: 'it returns false'. Refute it at one input. -/
def packNumbersWrong : ChangeSpec := { name := "packNumbers", fn := fun _ => fun
  | [d1, d2, d3] => { results := [.lit (.bool false)], args := [d1, d2, d3] }
  | _ => none }
def PackNumbersWrongFalsely : Prop := packNumbersRow.holds Try.pinned (OpenSpec.ofChange packNumbersWrong)

/-- 'parlourlaw32.PackBack': WHATEVER THE INPUT: true; the input reads as it did. -/
def packBackSpec : ChangeSpec := { name := "packBack", fn := fun _ => fun
  | [d1, d2, d3] => { results := [.lit (.bool true)], args := [d1, d2, d3] }
  | _ => none }
def packBackRow : OpenClaim := { program := "ytoghpbjllompaaa", sum := "6a0f6b2198b60b035c69daee4a7da4edc931bfe68c3579d92b0b2e3407368505", func := "parlour/parlourlaw32.PackBack", spec := "packBack", unfollowed := true, recurses := true, apart := false }
def PackBackSaid : Prop := packBackRow.holds Try.pinned (OpenSpec.ofChange packBackSpec)

/-- ITS FALSE NEIGHBOUR: 'it returns false'. Refute it at one input. -/
def packBackWrong : ChangeSpec := { name := "packBack", fn := fun _ => fun
  | [d1, d2, d3] => { results := [.lit (.bool false)], args := [d1, d2, d3] }
  | _ => none }
def PackBackWrongFalsely : Prop := packBackRow.holds Try.pinned (OpenSpec.ofChange packBackWrong)

/-- 'parlourlaw32.PackKnown': WHATEVER THE INPUT: true; the input reads as it did. -/
def packKnownSpec : ChangeSpec := { name := "packKnown", fn := fun _ => fun
  | [] => { results := [.lit (.bool true)], args := [] }
  | _ => none }
def packKnownRow : OpenClaim := { program := "ytoghpbjllompaaa", sum := "6a0f6b2198b60b035c69daee4a7da4edc931bfe68c3579d92b0b2e3407368505", func := "parlour/parlourlaw32.PackKnown", spec := "packKnown", unfollowed := true, recurses := true, apart := false }
def PackKnownSaid : Prop := packKnownRow.holds Try.pinned (OpenSpec.ofChange packKnownSpec)

/-- ITS FALSE NEIGHBOUR: 'it returns false'. Refute it at one input. -/
def packKnownWrong : ChangeSpec := { name := "packKnown", fn := fun _ => fun
  | [] => { results := [.lit (.bool false)], args := [] }
  | _ => none }
def PackKnownWrongFalsely : Prop := packKnownRow.holds Try.pinned (OpenSpec.ofChange packKnownWrong)

/-- 'parlourlaw32.PackGames': WHATEVER THE INPUT: true; the input reads as it did. -/
def packGamesSpec : ChangeSpec := { name := "packGames", fn := fun _ => fun
  | [d1, d2, d3, d4] => { results := [.lit (.bool true)], args := [d1, d2, d3, d4] }
  | _ => none }
def packGamesRow : OpenClaim := { program := "ytoghpbjllompaaa", sum := "6a0f6b2198b60b035c69daee4a7da4edc931bfe68c3579d92b0b2e3407368505", func := "parlour/parlourlaw32.PackGames", spec := "packGames", unfollowed := true, recurses := true, apart := false }
def PackGamesSaid : Prop := packGamesRow.holds Try.pinned (OpenSpec.ofChange packGamesSpec)

/-- ITS FALSE NEIGHBOUR: 'it returns false'. Refute it at one input. -/
def packGamesWrong : ChangeSpec := { name := "packGames", fn := fun _ => fun
  | [d1, d2, d3, d4] => { results := [.lit (.bool false)], args := [d1, d2, d3, d4] }
  | _ => none }
def PackGamesWrongFalsely : Prop := packGamesRow.holds Try.pinned (OpenSpec.ofChange packGamesWrong)

/-- 'parlourlaw32.PackReads': WHATEVER THE INPUT: true; the input reads as it did. -/
def packReadsSpec : ChangeSpec := { name := "packReads", fn := fun _ => fun
  | [d] => { results := [.lit (.bool true)], args := [d] }
  | _ => none }
def packReadsRow : OpenClaim := { program := "ytoghpbjllompaaa", sum := "6a0f6b2198b60b035c69daee4a7da4edc931bfe68c3579d92b0b2e3407368505", func := "parlour/parlourlaw32.PackReads", spec := "packReads", unfollowed := true, recurses := true, apart := false }
def PackReadsSaid : Prop := packReadsRow.holds Try.pinned (OpenSpec.ofChange packReadsSpec)

/-- ITS FALSE NEIGHBOUR: 'it returns false'. Refute it at one input. -/
def packReadsWrong : ChangeSpec := { name := "packReads", fn := fun _ => fun
  | [d] => { results := [.lit (.bool false)], args := [d] }
  | _ => none }
def PackReadsWrongFalsely : Prop := packReadsRow.holds Try.pinned (OpenSpec.ofChange packReadsWrong)

/-- 'parlourlaw32.PackTables': WHATEVER THE INPUT: true; the input reads as it did. -/
def packTablesSpec : ChangeSpec := { name := "packTables", fn := fun _ => fun
  | [d1, d2, d3, d4, d5] => { results := [.lit (.bool true)], args := [d1, d2, d3, d4, d5] }
  | _ => none }
def packTablesRow : OpenClaim := { program := "ytoghpbjllompaaa", sum := "6a0f6b2198b60b035c69daee4a7da4edc931bfe68c3579d92b0b2e3407368505", func := "parlour/parlourlaw32.PackTables", spec := "packTables", unfollowed := true, recurses := true, apart := false }
def PackTablesSaid : Prop := packTablesRow.holds Try.pinned (OpenSpec.ofChange packTablesSpec)

/-- ITS FALSE NEIGHBOUR: 'it returns false'. Refute it at one input. -/
def packTablesWrong : ChangeSpec := { name := "packTables", fn := fun _ => fun
  | [d1, d2, d3, d4, d5] => { results := [.lit (.bool false)], args := [d1, d2, d3, d4, d5] }
  | _ => none }
def PackTablesWrongFalsely : Prop := packTablesRow.holds Try.pinned (OpenSpec.ofChange packTablesWrong)

/- THE SECOND FORM. 'bulk': how many values and letters a reading holds, each counted each time it is reached (what is shared counts as often as it is met; a slice's spare places count too). A statement '..UptoSaid' is the law's where the arguments, and the package variables that the reading takes, are together of bulk at most 1048576: NARROWER than '..Said'. Prove '..Said' where nothing that the law and all that it calls make is longer than what came in: it says more and counts as full. Else prove '..UptoSaid'. A law counts once. -/
mutual
def uptoBulk {H : Type} : DataW H → Nat
  | .lit (.string bytes) => bytes.length + 1
  | .lit _ => 1
  | .nil => 1
  | .ptr d => uptoBulk d + 1
  | .slice elems spare => uptoBulkAll elems + uptoBulkAll spare + 1
  | .agg parts => uptoBulkAll parts + 1
  | .iface _ d => uptoBulk d + 1
  | .map entries => uptoBulkEntries entries + 1
  | .held _ => 1
def uptoBulkAll {H : Type} : List (DataW H) → Nat
  | [] => 0
  | d :: r => uptoBulk d + uptoBulkAll r
def uptoBulkEntries {H : Type} : List (Lit × DataW H) → Nat
  | [] => 0
  | x :: r => uptoBulkEntry x + uptoBulkEntries r
def uptoBulkEntry {H : Type} : Lit × DataW H → Nat
  | (.string bytes, d) => bytes.length + uptoBulk d + 1
  | (_, d) => uptoBulk d + 1
 end
def uptoSmall : (H : Type) → List (DataW H) → Bool := fun _ ds => decide (uptoBulkAll ds ≤ 1048576)
def OpenSpec.upto (s : _root_.Go.ChangeSpec) : _root_.Go.OpenSpec := { _root_.Go.OpenSpec.ofChange s with cond := some uptoSmall }

/-- 'parlourlaw32.PackWrites', WHERE WHAT IT READS IS OF BULK AT MOST 1048576: true; the input reads as it did. -/
def packWritesUptoRow : OpenClaim := { program := "ytoghpbjllompaaa", sum := "6a0f6b2198b60b035c69daee4a7da4edc931bfe68c3579d92b0b2e3407368505", func := "parlour/parlourlaw32.PackWrites", spec := "packWrites", unfollowed := true, recurses := true, apart := false, narrowed := true }
def PackWritesUptoSaid : Prop := packWritesUptoRow.holds Try.pinned (OpenSpec.upto packWritesSpec)

/-- 'parlourlaw32.PackNumbers', WHERE WHAT IT READS IS OF BULK AT MOST 1048576: true; the input reads as it did. -/
def packNumbersUptoRow : OpenClaim := { program := "ytoghpbjllompaaa", sum := "6a0f6b2198b60b035c69daee4a7da4edc931bfe68c3579d92b0b2e3407368505", func := "parlour/parlourlaw32.PackNumbers", spec := "packNumbers", unfollowed := true, recurses := true, apart := false, narrowed := true }
def PackNumbersUptoSaid : Prop := packNumbersUptoRow.holds Try.pinned (OpenSpec.upto packNumbersSpec)

/-- 'parlourlaw32.PackBack', WHERE WHAT IT READS IS OF BULK AT MOST 1048576: true; the input reads as it did. -/
def packBackUptoRow : OpenClaim := { program := "ytoghpbjllompaaa", sum := "6a0f6b2198b60b035c69daee4a7da4edc931bfe68c3579d92b0b2e3407368505", func := "parlour/parlourlaw32.PackBack", spec := "packBack", unfollowed := true, recurses := true, apart := false, narrowed := true }
def PackBackUptoSaid : Prop := packBackUptoRow.holds Try.pinned (OpenSpec.upto packBackSpec)

/-- 'parlourlaw32.PackKnown', WHERE WHAT IT READS IS OF BULK AT MOST 1048576: true; the input reads as it did. -/
def packKnownUptoRow : OpenClaim := { program := "ytoghpbjllompaaa", sum := "6a0f6b2198b60b035c69daee4a7da4edc931bfe68c3579d92b0b2e3407368505", func := "parlour/parlourlaw32.PackKnown", spec := "packKnown", unfollowed := true, recurses := true, apart := false, narrowed := true }
def PackKnownUptoSaid : Prop := packKnownUptoRow.holds Try.pinned (OpenSpec.upto packKnownSpec)

/-- 'parlourlaw32.PackGames', WHERE WHAT IT READS IS OF BULK AT MOST 1048576: true; the input reads as it did. -/
def packGamesUptoRow : OpenClaim := { program := "ytoghpbjllompaaa", sum := "6a0f6b2198b60b035c69daee4a7da4edc931bfe68c3579d92b0b2e3407368505", func := "parlour/parlourlaw32.PackGames", spec := "packGames", unfollowed := true, recurses := true, apart := false, narrowed := true }
def PackGamesUptoSaid : Prop := packGamesUptoRow.holds Try.pinned (OpenSpec.upto packGamesSpec)

/-- 'parlourlaw32.PackReads', WHERE WHAT IT READS IS OF BULK AT MOST 1048576: true; the input reads as it did. -/
def packReadsUptoRow : OpenClaim := { program := "ytoghpbjllompaaa", sum := "6a0f6b2198b60b035c69daee4a7da4edc931bfe68c3579d92b0b2e3407368505", func := "parlour/parlourlaw32.PackReads", spec := "packReads", unfollowed := true, recurses := true, apart := false, narrowed := true }
def PackReadsUptoSaid : Prop := packReadsUptoRow.holds Try.pinned (OpenSpec.upto packReadsSpec)

/-- 'parlourlaw32.PackTables', WHERE WHAT IT READS IS OF BULK AT MOST 1048576: true; the input reads as it did. -/
def packTablesUptoRow : OpenClaim := { program := "ytoghpbjllompaaa", sum := "6a0f6b2198b60b035c69daee4a7da4edc931bfe68c3579d92b0b2e3407368505", func := "parlour/parlourlaw32.PackTables", spec := "packTables", unfollowed := true, recurses := true, apart := false, narrowed := true }
def PackTablesUptoSaid : Prop := packTablesUptoRow.holds Try.pinned (OpenSpec.upto packTablesSpec)

end Rows
end Go.Proofs.Ytoghpbjllompaaa
