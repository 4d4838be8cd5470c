/-
  No cell of these rows narrows 'for every input' (looked for: loops, veiled, ifaces, maps, wideKeys, modest, calm, conditions, laid).
  DERIVED. THE GIVEN ROWS OF THIS SEAT. 6 by the template 'for every input the law returns true; each argument reads behind the call as it read before'; 0 by the template 'total and deterministic' (their statements: YtiikfkacbglblaaTotals.lean).
  GIVEN WITH THE SEED: the statements are not yours to turn. If you find one false, say at which input.
  Laid BY PROGRAM, IN A SANDBOX (cutbox-rows.mjs): the forced cells as the released guide's own fill.sh prints them over the translation f26ebbd8be7a91ac… (all of the seat's roots in one cut). By AI agents, Wed Nov 11 2026. No macro, syntax, notation, axiom, sorry.
-/
import Derived.Test.YtiikfkacbglblaaChecked
import GoSem.Claim
import GoSem.ClaimJoined
import GoSem.ClaimMapViews
import Derived.JoinedTies
import Derived.KernelRfl
namespace Go.Proofs.Ytiikfkacbglblaa
/- THE CELL 'sum', in the pinned program and in every row, IS THE sha256 OF THE DUMP (.gsa) THAT YtiikfkacbglblaaProg.lean LOADS. Nothing in Lean hashes anything: it is a label: what it is worth is what the hold of that sum in a sandbox is worth. -/
noncomputable def Try.pinned : Pinned := { name := "ytiikfkacbglblaa", sum := "f26ebbd8be7a91acabadb29a40d2f46d3f1a71e6e344280eff78e0ed28d6faeb", checked := Try.checked }
namespace Rows
def none {H : Type} : Left H := { results := [], args := [] }

/-- 'parlourlaw11.RecallForms': WHATEVER THE INPUT: true; the input reads as it did. -/
def recallFormsSpec : ChangeSpec := { name := "recallForms", fn := fun _ => fun
  | [d] => { results := [.lit (.bool true)], args := [d] }
  | _ => none }
def recallFormsRow : OpenClaim := { program := "ytiikfkacbglblaa", sum := "f26ebbd8be7a91acabadb29a40d2f46d3f1a71e6e344280eff78e0ed28d6faeb", func := "parlour/parlourlaw11.RecallForms", spec := "recallForms", unfollowed := true, recurses := true, apart := false }
def RecallFormsSaid : Prop := recallFormsRow.holds Try.pinned (OpenSpec.ofChange recallFormsSpec)

/-- ITS FALSE NEIGHBOUR: 'it returns false'. Refute it at one input. -/
def recallFormsWrong : ChangeSpec := { name := "recallForms", fn := fun _ => fun
  | [d] => { results := [.lit (.bool false)], args := [d] }
  | _ => none }
def RecallFormsWrongFalsely : Prop := recallFormsRow.holds Try.pinned (OpenSpec.ofChange recallFormsWrong)

/-- 'parlourlaw11.RecallKnown': WHATEVER THE INPUT: true; the input reads as it did. -/
def recallKnownSpec : ChangeSpec := { name := "recallKnown", fn := fun _ => fun
  | [] => { results := [.lit (.bool true)], args := [] }
  | _ => none }
def recallKnownRow : OpenClaim := { program := "ytiikfkacbglblaa", sum := "f26ebbd8be7a91acabadb29a40d2f46d3f1a71e6e344280eff78e0ed28d6faeb", func := "parlour/parlourlaw11.RecallKnown", spec := "recallKnown", unfollowed := true, recurses := true, apart := false }
def RecallKnownSaid : Prop := recallKnownRow.holds Try.pinned (OpenSpec.ofChange recallKnownSpec)

/-- ITS FALSE NEIGHBOUR: 'it returns false'. Refute it at one input. -/
def recallKnownWrong : ChangeSpec := { name := "recallKnown", fn := fun _ => fun
  | [] => { results := [.lit (.bool false)], args := [] }
  | _ => none }
def RecallKnownWrongFalsely : Prop := recallKnownRow.holds Try.pinned (OpenSpec.ofChange recallKnownWrong)

/-- 'parlourlaw11.RecallCalls': WHATEVER THE INPUT: true; the input reads as it did. -/
def recallCallsSpec : ChangeSpec := { name := "recallCalls", fn := fun _ => fun
  | [d1, d2, d3] => { results := [.lit (.bool true)], args := [d1, d2, d3] }
  | _ => none }
def recallCallsRow : OpenClaim := { program := "ytiikfkacbglblaa", sum := "f26ebbd8be7a91acabadb29a40d2f46d3f1a71e6e344280eff78e0ed28d6faeb", func := "parlour/parlourlaw11.RecallCalls", spec := "recallCalls", unfollowed := true, recurses := true, apart := false }
def RecallCallsSaid : Prop := recallCallsRow.holds Try.pinned (OpenSpec.ofChange recallCallsSpec)

/-- ITS FALSE NEIGHBOUR: 'it returns false'. Refute it at one input. -/
def recallCallsWrong : ChangeSpec := { name := "recallCalls", fn := fun _ => fun
  | [d1, d2, d3] => { results := [.lit (.bool false)], args := [d1, d2, d3] }
  | _ => none }
def RecallCallsWrongFalsely : Prop := recallCallsRow.holds Try.pinned (OpenSpec.ofChange recallCallsWrong)

/-- 'parlourlaw11.RecallPerfect': WHATEVER THE INPUT: true; the input reads as it did. -/
def recallPerfectSpec : ChangeSpec := { name := "recallPerfect", fn := fun _ => fun
  | [d1, d2, d3] => { results := [.lit (.bool true)], args := [d1, d2, d3] }
  | _ => none }
def recallPerfectRow : OpenClaim := { program := "ytiikfkacbglblaa", sum := "f26ebbd8be7a91acabadb29a40d2f46d3f1a71e6e344280eff78e0ed28d6faeb", func := "parlour/parlourlaw11.RecallPerfect", spec := "recallPerfect", unfollowed := true, recurses := true, apart := false }
def RecallPerfectSaid : Prop := recallPerfectRow.holds Try.pinned (OpenSpec.ofChange recallPerfectSpec)

/-- ITS FALSE NEIGHBOUR: 'it returns false'. Refute it at one input. -/
def recallPerfectWrong : ChangeSpec := { name := "recallPerfect", fn := fun _ => fun
  | [d1, d2, d3] => { results := [.lit (.bool false)], args := [d1, d2, d3] }
  | _ => none }
def RecallPerfectWrongFalsely : Prop := recallPerfectRow.holds Try.pinned (OpenSpec.ofChange recallPerfectWrong)

/-- 'parlourlaw11.RecallSubtrees': WHATEVER THE INPUT: true; the input reads as it did. -/
def recallSubtreesSpec : ChangeSpec := { name := "recallSubtrees", fn := fun _ => fun
  | [d1, d2] => { results := [.lit (.bool true)], args := [d1, d2] }
  | _ => none }
def recallSubtreesRow : OpenClaim := { program := "ytiikfkacbglblaa", sum := "f26ebbd8be7a91acabadb29a40d2f46d3f1a71e6e344280eff78e0ed28d6faeb", func := "parlour/parlourlaw11.RecallSubtrees", spec := "recallSubtrees", unfollowed := true, recurses := true, apart := false }
def RecallSubtreesSaid : Prop := recallSubtreesRow.holds Try.pinned (OpenSpec.ofChange recallSubtreesSpec)

/-- ITS FALSE NEIGHBOUR: 'it returns false'. Refute it at one input. -/
def recallSubtreesWrong : ChangeSpec := { name := "recallSubtrees", fn := fun _ => fun
  | [d1, d2] => { results := [.lit (.bool false)], args := [d1, d2] }
  | _ => none }
def RecallSubtreesWrongFalsely : Prop := recallSubtreesRow.holds Try.pinned (OpenSpec.ofChange recallSubtreesWrong)

/-- 'parlourlaw11.RecallWays': WHATEVER THE INPUT: true; the input reads as it did. -/
def recallWaysSpec : ChangeSpec := { name := "recallWays", fn := fun _ => fun
  | [d1, d2, d3, d4] => { results := [.lit (.bool true)], args := [d1, d2, d3, d4] }
  | _ => none }
def recallWaysRow : OpenClaim := { program := "ytiikfkacbglblaa", sum := "f26ebbd8be7a91acabadb29a40d2f46d3f1a71e6e344280eff78e0ed28d6faeb", func := "parlour/parlourlaw11.RecallWays", spec := "recallWays", unfollowed := true, recurses := true, apart := false }
def RecallWaysSaid : Prop := recallWaysRow.holds Try.pinned (OpenSpec.ofChange recallWaysSpec)

/-- ITS FALSE NEIGHBOUR: 'it returns false'. Refute it at one input. -/
def recallWaysWrong : ChangeSpec := { name := "recallWays", fn := fun _ => fun
  | [d1, d2, d3, d4] => { results := [.lit (.bool false)], args := [d1, d2, d3, d4] }
  | _ => none }
def RecallWaysWrongFalsely : Prop := recallWaysRow.holds Try.pinned (OpenSpec.ofChange recallWaysWrong)

/- THE SECOND FORM. 'bulk': how many values and letters a reading holds, each counted each time it is reached (what is shared counts as often as it is met; a slice's spare places count too). A statement '..UptoSaid' is the law's where the arguments, and the package variables that the reading takes, are together of bulk at most 1048576: NARROWER than '..Said'. Prove '..Said' where nothing that the law and all that it calls make is longer than what came in: it says more and counts as full. Else prove '..UptoSaid'. A law counts once. -/
mutual
def uptoBulk {H : Type} : DataW H → Nat
  | .lit (.string bytes) => bytes.length + 1
  | .lit _ => 1
  | .nil => 1
  | .ptr d => uptoBulk d + 1
  | .slice elems spare => uptoBulkAll elems + uptoBulkAll spare + 1
  | .agg parts => uptoBulkAll parts + 1
  | .iface _ d => uptoBulk d + 1
  | .map entries => uptoBulkEntries entries + 1
  | .held _ => 1
def uptoBulkAll {H : Type} : List (DataW H) → Nat
  | [] => 0
  | d :: r => uptoBulk d + uptoBulkAll r
def uptoBulkEntries {H : Type} : List (Lit × DataW H) → Nat
  | [] => 0
  | x :: r => uptoBulkEntry x + uptoBulkEntries r
def uptoBulkEntry {H : Type} : Lit × DataW H → Nat
  | (.string bytes, d) => bytes.length + uptoBulk d + 1
  | (_, d) => uptoBulk d + 1
 end
def uptoSmall : (H : Type) → List (DataW H) → Bool := fun _ ds => decide (uptoBulkAll ds ≤ 1048576)
def OpenSpec.upto (s : _root_.Go.ChangeSpec) : _root_.Go.OpenSpec := { _root_.Go.OpenSpec.ofChange s with cond := some uptoSmall }

/-- 'parlourlaw11.RecallForms', WHERE WHAT IT READS IS OF BULK AT MOST 1048576: true; the input reads as it did. -/
def recallFormsUptoRow : OpenClaim := { program := "ytiikfkacbglblaa", sum := "f26ebbd8be7a91acabadb29a40d2f46d3f1a71e6e344280eff78e0ed28d6faeb", func := "parlour/parlourlaw11.RecallForms", spec := "recallForms", unfollowed := true, recurses := true, apart := false, narrowed := true }
def RecallFormsUptoSaid : Prop := recallFormsUptoRow.holds Try.pinned (OpenSpec.upto recallFormsSpec)

/-- 'parlourlaw11.RecallKnown', WHERE WHAT IT READS IS OF BULK AT MOST 1048576: true; the input reads as it did. -/
def recallKnownUptoRow : OpenClaim := { program := "ytiikfkacbglblaa", sum := "f26ebbd8be7a91acabadb29a40d2f46d3f1a71e6e344280eff78e0ed28d6faeb", func := "parlour/parlourlaw11.RecallKnown", spec := "recallKnown", unfollowed := true, recurses := true, apart := false, narrowed := true }
def RecallKnownUptoSaid : Prop := recallKnownUptoRow.holds Try.pinned (OpenSpec.upto recallKnownSpec)

/-- 'parlourlaw11.RecallCalls', WHERE WHAT IT READS IS OF BULK AT MOST 1048576: true; the input reads as it did. -/
def recallCallsUptoRow : OpenClaim := { program := "ytiikfkacbglblaa", sum := "f26ebbd8be7a91acabadb29a40d2f46d3f1a71e6e344280eff78e0ed28d6faeb", func := "parlour/parlourlaw11.RecallCalls", spec := "recallCalls", unfollowed := true, recurses := true, apart := false, narrowed := true }
def RecallCallsUptoSaid : Prop := recallCallsUptoRow.holds Try.pinned (OpenSpec.upto recallCallsSpec)

/-- 'parlourlaw11.RecallPerfect', WHERE WHAT IT READS IS OF BULK AT MOST 1048576: true; the input reads as it did. -/
def recallPerfectUptoRow : OpenClaim := { program := "ytiikfkacbglblaa", sum := "f26ebbd8be7a91acabadb29a40d2f46d3f1a71e6e344280eff78e0ed28d6faeb", func := "parlour/parlourlaw11.RecallPerfect", spec := "recallPerfect", unfollowed := true, recurses := true, apart := false, narrowed := true }
def RecallPerfectUptoSaid : Prop := recallPerfectUptoRow.holds Try.pinned (OpenSpec.upto recallPerfectSpec)

/-- 'parlourlaw11.RecallSubtrees', WHERE WHAT IT READS IS OF BULK AT MOST 1048576: true; the input reads as it did. -/
def recallSubtreesUptoRow : OpenClaim := { program := "ytiikfkacbglblaa", sum := "f26ebbd8be7a91acabadb29a40d2f46d3f1a71e6e344280eff78e0ed28d6faeb", func := "parlour/parlourlaw11.RecallSubtrees", spec := "recallSubtrees", unfollowed := true, recurses := true, apart := false, narrowed := true }
def RecallSubtreesUptoSaid : Prop := recallSubtreesUptoRow.holds Try.pinned (OpenSpec.upto recallSubtreesSpec)

/-- 'parlourlaw11.RecallWays', WHERE WHAT IT READS IS OF BULK AT MOST 1048576: true; the input reads as it did. -/
def recallWaysUptoRow : OpenClaim := { program := "ytiikfkacbglblaa", sum := "f26ebbd8be7a91acabadb29a40d2f46d3f1a71e6e344280eff78e0ed28d6faeb", func := "parlour/parlourlaw11.RecallWays", spec := "recallWays", unfollowed := true, recurses := true, apart := false, narrowed := true }
def RecallWaysUptoSaid : Prop := recallWaysUptoRow.holds Try.pinned (OpenSpec.upto recallWaysSpec)

end Rows
end Go.Proofs.Ytiikfkacbglblaa
