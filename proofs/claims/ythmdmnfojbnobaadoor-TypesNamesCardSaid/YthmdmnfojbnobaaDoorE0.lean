/-
  Steps of the proof: contracts of functions and plain facts that the statement rests on.
-/
import Derived.Test.YthmdmnfojbnobaaDoorCore4
import Derived.Test.YthmdmnfojbnobaaDoorRows
set_option linter.all false
namespace Go.Proofs.YthmdmnfojbnobaaDoor
open Go.Ab
def blanksL : List Bool := [false, false, false, false, false, false, false, false, false, true, true, false, false, false, false, false, false, false, false, false, false, false, false, false, false, false, false, false, false, false, false, false, true]
def signsL : List Bool := [false, false, false, false, false, false, false, false, false, false, false, false, false, false, false, false, false, false, false, false, false, false, false, false, false, false, false, false, false, false, false, false, false, true, false, false, false, true, false, false, true, true, true, true, true, true, true, true, false, false, false, false, false, false, false, false, false, false, true, true, true, true, true, false, false, false, false, false, false, false, false, false, false, false, false, false, false, false, false, false, false, false, false, false, false, false, false, false, false, false, false, false, false, false, false, false, false, false, false, false, false, false, false, false, false, false, false, false, false, false, false, false, false, false, false, false, false, false, false, false, false, false, false, true, false, true]
instance glob : GlobEnv := ⟨fun
  | 0 => some [.iface 129 (.agg #[.pointer (some ⟨1, 55, none⟩)])]
  | _ => none⟩
end Go.Proofs.YthmdmnfojbnobaaDoor

