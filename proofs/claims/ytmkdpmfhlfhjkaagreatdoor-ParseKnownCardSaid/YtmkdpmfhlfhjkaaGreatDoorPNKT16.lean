/-
  Steps of the proof: contracts of functions and plain facts that the statement rests on.
-/
import Derived.Test.YtmkdpmfhlfhjkaaGreatDoorPNKT15
set_option linter.all false
namespace Go.Proofs.YtmkdpmfhlfhjkaaGreatDoor
open Go.Ab
section
variable {H:List AO} {l:List UInt8}
theorem cAt_get {e:Nat} (he:e<l.length):cAt l e=cls l[e].toNat:=by simp[cAt,he]
end
end Go.Proofs.YtmkdpmfhlfhjkaaGreatDoor
