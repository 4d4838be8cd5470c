/-
  Steps of the proof: contracts of functions and plain facts that the statement rests on.
-/
import Derived.Test.YtjbhokoihamhiaaDoorCore5
import Derived.Test.YtjbhokoihamhiaaDoorCore6
import Derived.Test.YtjbhokoihamhiaaDoorRows
set_option linter.all false
namespace Go.Proofs.YtjbhokoihamhiaaDoor
open Go.Ab
def blanksL : List Bool := [false, false, false, false, false, false, false, false, false, true, true, false, false, false, false, false, false, false, false, false, false, false, false, false, false, false, false, false, false, false, false, false, true]
def signsL : List Bool := [false, false, false, false, false, false, false, false, false, false, false, false, false, false, false, false, false, false, false, false, false, false, false, false, false, false, false, false, false, false, false, false, false, true, false, false, false, true, false, false, true, true, true, true, true, true, true, true, false, false, false, false, false, false, false, false, false, false, true, true, true, true, true, false, false, false, false, false, false, false, false, false, false, false, false, false, false, false, false, false, false, false, false, false, false, false, false, false, false, false, false, false, false, false, false, false, false, false, false, false, false, false, false, false, false, false, false, false, false, false, false, false, false, false, false, false, false, false, false, false, false, false, false, true, false, true]
def gv0 : List SV := blanksL.map bl
def gv1 : List SV := signsL.map bl
instance glob : GlobEnv := ⟨fun
  | 0 => some (blanksL.map Value.bool)
  | 1 => some (signsL.map Value.bool)
  | 2 => some [.iface 105 (.agg #[.pointer (some ⟨4, 53, none⟩)])]
  | _ => none⟩
end Go.Proofs.YtjbhokoihamhiaaDoor
