/-
  Steps of the proof: contracts of functions and plain facts that the statement rests on.
-/
import Derived.Test.YtcejichidnlicaaGreatDoorCore5
import Derived.Test.YtcejichidnlicaaGreatDoorRows
set_option linter.all false
namespace Go.Proofs.YtcejichidnlicaaGreatDoor
open Go.Ab
def blanksL:List Bool:=[false,false,false,false,false,false,false,false,false,true,true,false,false,false,false,false,false,false,false,false,false,false,false,false,false,false,false,false,false,false,false,false,true]
def signsL:List Bool:=[false,false,false,false,false,false,false,false,false,false,false,false,false,false,false,false,false,false,false,false,false,false,false,false,false,false,false,false,false,false,false,false,false,true,false,false,false,true,false,false,true,true,true,true,true,true,true,true,false,false,false,false,false,false,false,false,false,false,true,true,true,true,true,false,false,false,false,false,false,false,false,false,false,false,false,false,false,false,false,false,false,false,false,false,false,false,false,false,false,false,false,false,false,false,false,false,false,false,false,false,false,false,false,false,false,false,false,false,false,false,false,false,false,false,false,false,false,false,false,false,false,false,false,true,false,true]
instance glob:GlobEnv:=⟨fun
 | 0=>some [.iface 153 (.agg #[.pointer (some ⟨1,117,none⟩)])]
 | _=>none⟩
end Go.Proofs.YtcejichidnlicaaGreatDoor
