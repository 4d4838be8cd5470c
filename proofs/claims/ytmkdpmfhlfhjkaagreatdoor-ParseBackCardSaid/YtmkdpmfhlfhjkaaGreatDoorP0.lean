/- Steps of the proof. -/
import Derived.Test.YtmkdpmfhlfhjkaaGreatDoorCore5
import Derived.Lib.ItoaNum
import Derived.Lib.LaidTab
import Derived.Test.YtmkdpmfhlfhjkaaGreatDoorCore4
import Derived.Test.YtmkdpmfhlfhjkaaGreatDoorRows
set_option linter.all false
namespace Go.Proofs.YtmkdpmfhlfhjkaaGreatDoor
open Go.Ab
def QgY:List Bool:=[false,false,false,false,false,false,false,false,false,true,true,false,false,false,false,false,false,false,false,false,false,false,false,false,false,false,false,false,false,false,false,false,true]
def Qhp:List Bool:=[false,false,false,false,false,false,false,false,false,false,false,false,false,false,false,false,false,false,false,false,false,false,false,false,false,false,false,false,false,false,false,false,false,true,false,false,false,true,false,false,true,true,true,true,true,true,true,true,false,false,false,false,false,false,false,false,false,false,true,true,true,true,true,false,false,false,false,false,false,false,false,false,false,false,false,false,false,false,false,false,false,false,false,false,false,false,false,false,false,false,false,false,false,false,false,false,false,false,false,false,false,false,false,false,false,false,false,false,false,false,false,false,false,false,false,false,false,false,false,false,false,false,false,true,false,true]
def gv0:ZJ:=QgY.map bl
def gv1:ZJ:=Qhp.map bl
instance fre:QK:=⟨true⟩
instance glob:QO:=⟨λ
 |0=>some (QgY.map Value.bool)
 |1=>some (Qhp.map Value.bool)
 |3=>some (Lib.pow10Tab.map λz=>Value.int .u64 z)
 |2=>some [.iface 225 (.agg #[.pointer (some ⟨7,113,none⟩)])]
 |_=>none⟩
end Go.Proofs.YtmkdpmfhlfhjkaaGreatDoor
