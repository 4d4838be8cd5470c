/- Steps of the proof. -/
import Derived.Test.YtmkdpmfhlfhjkaaGreatDoorPNKT15
set_option linter.all false
namespace Go.Proofs.YtmkdpmfhlfhjkaaGreatDoor
open Go.Ab
section
variable {H:ZG} {l:ZE}
theorem Qyi {e:Nat} (he:e<l.length):cAt l e=cls l[e].toNat:=by simp[cAt,he]
end
end Go.Proofs.YtmkdpmfhlfhjkaaGreatDoor
