/-
  No cell of these rows narrows 'for every input' (looked for: loops, veiled, ifaces, maps, wideKeys, modest, calm, conditions, laid).
  DERIVED. THE GIVEN ROWS OF THIS SEAT. 7 by the template 'for every input the law returns true; each argument reads behind the call as it read before'; 0 by the template 'total and deterministic' (their statements: YtbfeaikiiamhaaaTotals.lean).
  GIVEN WITH THE SEED: the statements are not yours to turn. If you find one false, say at which input.
  Laid BY PROGRAM, IN A SANDBOX (cutbox-rows.mjs): the forced cells as the released guide's own fill.sh prints them over the translation bcbe24f27f88e7e0… (all of the seat's roots in one cut). By AI agents, Wed Nov 11 2026. No macro, syntax, notation, axiom, sorry.
-/
import Derived.Test.YtbfeaikiiamhaaaChecked
import GoSem.Claim
import GoSem.ClaimJoined
import GoSem.ClaimMapViews
import Derived.JoinedTies
import Derived.KernelRfl
namespace Go.Proofs.Ytbfeaikiiamhaaa
/- THE CELL 'sum', in the pinned program and in every row, IS THE sha256 OF THE DUMP (.gsa) THAT YtbfeaikiiamhaaaProg.lean LOADS. Nothing in Lean hashes anything: it is a label: what it is worth is what the hold of that sum in a sandbox is worth. -/
noncomputable def Try.pinned : Pinned := { name := "ytbfeaikiiamhaaa", sum := "bcbe24f27f88e7e0424869b2c1671a798efd4018ad856e7febcd0ecebbaca5c7", checked := Try.checked }
namespace Rows
def none {H : Type} : Left H := { results := [], args := [] }

/-- 'parlourlaw33.SeedGames': WHATEVER THE INPUT: true; the input reads as it did. -/
def seedGamesSpec : ChangeSpec := { name := "seedGames", fn := fun _ => fun
  | [d1, d2] => { results := [.lit (.bool true)], args := [d1, d2] }
  | _ => none }
def seedGamesRow : OpenClaim := { program := "ytbfeaikiiamhaaa", sum := "bcbe24f27f88e7e0424869b2c1671a798efd4018ad856e7febcd0ecebbaca5c7", func := "parlour/parlourlaw33.SeedGames", spec := "seedGames", unfollowed := true, recurses := true, apart := false }
def SeedGamesSaid : Prop := seedGamesRow.holds Try.pinned (OpenSpec.ofChange seedGamesSpec)

/-- ITS FALSE NEIGHBOUR: 'it returns false'. Refute it at one input. -/
def seedGamesWrong : ChangeSpec := { name := "seedGames", fn := fun _ => fun
  | [d1, d2] => { results := [.lit (.bool false)], args := [d1, d2] }
  | _ => none }
def SeedGamesWrongFalsely : Prop := seedGamesRow.holds Try.pinned (OpenSpec.ofChange seedGamesWrong)

/-- 'parlourlaw33.SeedLeads': WHATEVER THE INPUT: true; the input reads as it did. -/
def seedLeadsSpec : ChangeSpec := { name := "seedLeads", fn := fun _ => fun
  | [d1, d2] => { results := [.lit (.bool true)], args := [d1, d2] }
  | _ => none }
def seedLeadsRow : OpenClaim := { program := "ytbfeaikiiamhaaa", sum := "bcbe24f27f88e7e0424869b2c1671a798efd4018ad856e7febcd0ecebbaca5c7", func := "parlour/parlourlaw33.SeedLeads", spec := "seedLeads", unfollowed := true, recurses := true, apart := false }
def SeedLeadsSaid : Prop := seedLeadsRow.holds Try.pinned (OpenSpec.ofChange seedLeadsSpec)

/-- ITS FALSE NEIGHBOUR: 'it returns false'. Refute it at one input. -/
def seedLeadsWrong : ChangeSpec := { name := "seedLeads", fn := fun _ => fun
  | [d1, d2] => { results := [.lit (.bool false)], args := [d1, d2] }
  | _ => none }
def SeedLeadsWrongFalsely : Prop := seedLeadsRow.holds Try.pinned (OpenSpec.ofChange seedLeadsWrong)

/-- 'parlourlaw33.SeedPerms': WHATEVER THE INPUT: true; the input reads as it did. -/
def seedPermsSpec : ChangeSpec := { name := "seedPerms", fn := fun _ => fun
  | [d1, d2, d3] => { results := [.lit (.bool true)], args := [d1, d2, d3] }
  | _ => none }
def seedPermsRow : OpenClaim := { program := "ytbfeaikiiamhaaa", sum := "bcbe24f27f88e7e0424869b2c1671a798efd4018ad856e7febcd0ecebbaca5c7", func := "parlour/parlourlaw33.SeedPerms", spec := "seedPerms", unfollowed := true, recurses := true, apart := false }
def SeedPermsSaid : Prop := seedPermsRow.holds Try.pinned (OpenSpec.ofChange seedPermsSpec)

/-- ITS FALSE NEIGHBOUR: 'it returns false'. Refute it at one input. -/
def seedPermsWrong : ChangeSpec := { name := "seedPerms", fn := fun _ => fun
  | [d1, d2, d3] => { results := [.lit (.bool false)], args := [d1, d2, d3] }
  | _ => none }
def SeedPermsWrongFalsely : Prop := seedPermsRow.holds Try.pinned (OpenSpec.ofChange seedPermsWrong)

/-- 'parlourlaw33.SeedDecks': WHATEVER THE INPUT: true; the input reads as it did. -/
def seedDecksSpec : ChangeSpec := { name := "seedDecks", fn := fun _ => fun
  | [d] => { results := [.lit (.bool true)], args := [d] }
  | _ => none }
def seedDecksRow : OpenClaim := { program := "ytbfeaikiiamhaaa", sum := "bcbe24f27f88e7e0424869b2c1671a798efd4018ad856e7febcd0ecebbaca5c7", func := "parlour/parlourlaw33.SeedDecks", spec := "seedDecks", unfollowed := true, recurses := true, apart := false }
def SeedDecksSaid : Prop := seedDecksRow.holds Try.pinned (OpenSpec.ofChange seedDecksSpec)

/-- ITS FALSE NEIGHBOUR: 'it returns false'. Refute it at one input. -/
def seedDecksWrong : ChangeSpec := { name := "seedDecks", fn := fun _ => fun
  | [d] => { results := [.lit (.bool false)], args := [d] }
  | _ => none }
def SeedDecksWrongFalsely : Prop := seedDecksRow.holds Try.pinned (OpenSpec.ofChange seedDecksWrong)

/-- 'parlourlaw33.SeedSplits': WHATEVER THE INPUT: true; the input reads as it did. -/
def seedSplitsSpec : ChangeSpec := { name := "seedSplits", fn := fun _ => fun
  | [d1, d2, d3] => { results := [.lit (.bool true)], args := [d1, d2, d3] }
  | _ => none }
def seedSplitsRow : OpenClaim := { program := "ytbfeaikiiamhaaa", sum := "bcbe24f27f88e7e0424869b2c1671a798efd4018ad856e7febcd0ecebbaca5c7", func := "parlour/parlourlaw33.SeedSplits", spec := "seedSplits", unfollowed := true, recurses := true, apart := false }
def SeedSplitsSaid : Prop := seedSplitsRow.holds Try.pinned (OpenSpec.ofChange seedSplitsSpec)

/-- ITS FALSE NEIGHBOUR: 'it returns false'. Refute it at one input. -/
def seedSplitsWrong : ChangeSpec := { name := "seedSplits", fn := fun _ => fun
  | [d1, d2, d3] => { results := [.lit (.bool false)], args := [d1, d2, d3] }
  | _ => none }
def SeedSplitsWrongFalsely : Prop := seedSplitsRow.holds Try.pinned (OpenSpec.ofChange seedSplitsWrong)

/-- 'parlourlaw33.SeedUniform': WHATEVER THE INPUT: true; the input reads as it did. -/
def seedUniformSpec : ChangeSpec := { name := "seedUniform", fn := fun _ => fun
  | [d] => { results := [.lit (.bool true)], args := [d] }
  | _ => none }
def seedUniformRow : OpenClaim := { program := "ytbfeaikiiamhaaa", sum := "bcbe24f27f88e7e0424869b2c1671a798efd4018ad856e7febcd0ecebbaca5c7", func := "parlour/parlourlaw33.SeedUniform", spec := "seedUniform", unfollowed := true, recurses := true, apart := false }
def SeedUniformSaid : Prop := seedUniformRow.holds Try.pinned (OpenSpec.ofChange seedUniformSpec)

/-- ITS FALSE NEIGHBOUR: 'it returns false'. Refute it at one input. -/
def seedUniformWrong : ChangeSpec := { name := "seedUniform", fn := fun _ => fun
  | [d] => { results := [.lit (.bool false)], args := [d] }
  | _ => none }
def SeedUniformWrongFalsely : Prop := seedUniformRow.holds Try.pinned (OpenSpec.ofChange seedUniformWrong)

/-- 'parlourlaw33.SeedKnown': WHATEVER THE INPUT: true; the input reads as it did. -/
def seedKnownSpec : ChangeSpec := { name := "seedKnown", fn := fun _ => fun
  | [] => { results := [.lit (.bool true)], args := [] }
  | _ => none }
def seedKnownRow : OpenClaim := { program := "ytbfeaikiiamhaaa", sum := "bcbe24f27f88e7e0424869b2c1671a798efd4018ad856e7febcd0ecebbaca5c7", func := "parlour/parlourlaw33.SeedKnown", spec := "seedKnown", unfollowed := true, recurses := true, apart := false }
def SeedKnownSaid : Prop := seedKnownRow.holds Try.pinned (OpenSpec.ofChange seedKnownSpec)

/-- ITS FALSE NEIGHBOUR: 'it returns false'. Refute it at one input. -/
def seedKnownWrong : ChangeSpec := { name := "seedKnown", fn := fun _ => fun
  | [] => { results := [.lit (.bool false)], args := [] }
  | _ => none }
def SeedKnownWrongFalsely : Prop := seedKnownRow.holds Try.pinned (OpenSpec.ofChange seedKnownWrong)

/- THE SECOND FORM. 'bulk': how many values and letters a reading holds, each counted each time it is reached (what is shared counts as often as it is met; a slice's spare places count too). A statement '..UptoSaid' is the law's where the arguments, and the package variables that the reading takes, are together of bulk at most 1048576: NARROWER than '..Said'. Prove '..Said' where nothing that the law and all that it calls make is longer than what came in: it says more and counts as full. Else prove '..UptoSaid'. A law counts once. -/
mutual
def uptoBulk {H : Type} : DataW H → Nat
  | .lit (.string bytes) => bytes.length + 1
  | .lit _ => 1
  | .nil => 1
  | .ptr d => uptoBulk d + 1
  | .slice elems spare => uptoBulkAll elems + uptoBulkAll spare + 1
  | .agg parts => uptoBulkAll parts + 1
  | .iface _ d => uptoBulk d + 1
  | .map entries => uptoBulkEntries entries + 1
  | .held _ => 1
def uptoBulkAll {H : Type} : List (DataW H) → Nat
  | [] => 0
  | d :: r => uptoBulk d + uptoBulkAll r
def uptoBulkEntries {H : Type} : List (Lit × DataW H) → Nat
  | [] => 0
  | x :: r => uptoBulkEntry x + uptoBulkEntries r
def uptoBulkEntry {H : Type} : Lit × DataW H → Nat
  | (.string bytes, d) => bytes.length + uptoBulk d + 1
  | (_, d) => uptoBulk d + 1
 end
def uptoSmall : (H : Type) → List (DataW H) → Bool := fun _ ds => decide (uptoBulkAll ds ≤ 1048576)
def OpenSpec.upto (s : _root_.Go.ChangeSpec) : _root_.Go.OpenSpec := { _root_.Go.OpenSpec.ofChange s with cond := some uptoSmall }

/-- 'parlourlaw33.SeedGames', WHERE WHAT IT READS IS OF BULK AT MOST 1048576: true; the input reads as it did. -/
def seedGamesUptoRow : OpenClaim := { program := "ytbfeaikiiamhaaa", sum := "bcbe24f27f88e7e0424869b2c1671a798efd4018ad856e7febcd0ecebbaca5c7", func := "parlour/parlourlaw33.SeedGames", spec := "seedGames", unfollowed := true, recurses := true, apart := false, narrowed := true }
def SeedGamesUptoSaid : Prop := seedGamesUptoRow.holds Try.pinned (OpenSpec.upto seedGamesSpec)

/-- 'parlourlaw33.SeedLeads', WHERE WHAT IT READS IS OF BULK AT MOST 1048576: true; the input reads as it did. -/
def seedLeadsUptoRow : OpenClaim := { program := "ytbfeaikiiamhaaa", sum := "bcbe24f27f88e7e0424869b2c1671a798efd4018ad856e7febcd0ecebbaca5c7", func := "parlour/parlourlaw33.SeedLeads", spec := "seedLeads", unfollowed := true, recurses := true, apart := false, narrowed := true }
def SeedLeadsUptoSaid : Prop := seedLeadsUptoRow.holds Try.pinned (OpenSpec.upto seedLeadsSpec)

/-- 'parlourlaw33.SeedPerms', WHERE WHAT IT READS IS OF BULK AT MOST 1048576: true; the input reads as it did. -/
def seedPermsUptoRow : OpenClaim := { program := "ytbfeaikiiamhaaa", sum := "bcbe24f27f88e7e0424869b2c1671a798efd4018ad856e7febcd0ecebbaca5c7", func := "parlour/parlourlaw33.SeedPerms", spec := "seedPerms", unfollowed := true, recurses := true, apart := false, narrowed := true }
def SeedPermsUptoSaid : Prop := seedPermsUptoRow.holds Try.pinned (OpenSpec.upto seedPermsSpec)

/-- 'parlourlaw33.SeedDecks', WHERE WHAT IT READS IS OF BULK AT MOST 1048576: true; the input reads as it did. -/
def seedDecksUptoRow : OpenClaim := { program := "ytbfeaikiiamhaaa", sum := "bcbe24f27f88e7e0424869b2c1671a798efd4018ad856e7febcd0ecebbaca5c7", func := "parlour/parlourlaw33.SeedDecks", spec := "seedDecks", unfollowed := true, recurses := true, apart := false, narrowed := true }
def SeedDecksUptoSaid : Prop := seedDecksUptoRow.holds Try.pinned (OpenSpec.upto seedDecksSpec)

/-- 'parlourlaw33.SeedSplits', WHERE WHAT IT READS IS OF BULK AT MOST 1048576: true; the input reads as it did. -/
def seedSplitsUptoRow : OpenClaim := { program := "ytbfeaikiiamhaaa", sum := "bcbe24f27f88e7e0424869b2c1671a798efd4018ad856e7febcd0ecebbaca5c7", func := "parlour/parlourlaw33.SeedSplits", spec := "seedSplits", unfollowed := true, recurses := true, apart := false, narrowed := true }
def SeedSplitsUptoSaid : Prop := seedSplitsUptoRow.holds Try.pinned (OpenSpec.upto seedSplitsSpec)

/-- 'parlourlaw33.SeedUniform', WHERE WHAT IT READS IS OF BULK AT MOST 1048576: true; the input reads as it did. -/
def seedUniformUptoRow : OpenClaim := { program := "ytbfeaikiiamhaaa", sum := "bcbe24f27f88e7e0424869b2c1671a798efd4018ad856e7febcd0ecebbaca5c7", func := "parlour/parlourlaw33.SeedUniform", spec := "seedUniform", unfollowed := true, recurses := true, apart := false, narrowed := true }
def SeedUniformUptoSaid : Prop := seedUniformUptoRow.holds Try.pinned (OpenSpec.upto seedUniformSpec)

/-- 'parlourlaw33.SeedKnown', WHERE WHAT IT READS IS OF BULK AT MOST 1048576: true; the input reads as it did. -/
def seedKnownUptoRow : OpenClaim := { program := "ytbfeaikiiamhaaa", sum := "bcbe24f27f88e7e0424869b2c1671a798efd4018ad856e7febcd0ecebbaca5c7", func := "parlour/parlourlaw33.SeedKnown", spec := "seedKnown", unfollowed := true, recurses := true, apart := false, narrowed := true }
def SeedKnownUptoSaid : Prop := seedKnownUptoRow.holds Try.pinned (OpenSpec.upto seedKnownSpec)

end Rows
end Go.Proofs.Ytbfeaikiiamhaaa
