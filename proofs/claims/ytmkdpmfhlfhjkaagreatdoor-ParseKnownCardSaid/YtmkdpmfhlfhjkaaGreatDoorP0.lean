/-
  Steps of the proof: contracts of functions and plain facts that the statement rests on.
-/
import Derived.Test.YtmkdpmfhlfhjkaaGreatDoorCore4
import Derived.Lib.ItoaNum
import Derived.Lib.LaidTab
import Derived.Test.YtmkdpmfhlfhjkaaGreatDoorRows
set_option linter.all false
namespace Go.Proofs.YtmkdpmfhlfhjkaaGreatDoor
open Go.Ab
def blanksL:List Bool:=[false,false,false,false,false,false,false,false,false,true,true,false,false,false,false,false,false,false,false,false,false,false,false,false,false,false,false,false,false,false,false,false,true]
def signsL:List Bool:=[false,false,false,false,false,false,false,false,false,false,false,false,false,false,false,false,false,false,false,false,false,false,false,false,false,false,false,false,false,false,false,false,false,true,false,false,false,true,false,false,true,true,true,true,true,true,true,true,false,false,false,false,false,false,false,false,false,false,true,true,true,true,true,false,false,false,false,false,false,false,false,false,false,false,false,false,false,false,false,false,false,false,false,false,false,false,false,false,false,false,false,false,false,false,false,false,false,false,false,false,false,false,false,false,false,false,false,false,false,false,false,false,false,false,false,false,false,false,false,false,false,false,false,true,false,true]
def gv0:List SV:=blanksL.map bl
def gv1:List SV:=signsL.map bl
instance fre:FrEnv:=⟨true⟩
instance glob:GlobEnv:=⟨fun
 | 0=>some (blanksL.map Value.bool)
 | 1=>some (signsL.map Value.bool)
 | 3=>some (Lib.pow10Tab.map fun z=>Value.int .u64 z)
 | 2=>some [.iface 225 (.agg #[.pointer (some ⟨7,113,none⟩)])]
 | _=>none⟩
end Go.Proofs.YtmkdpmfhlfhjkaaGreatDoor
