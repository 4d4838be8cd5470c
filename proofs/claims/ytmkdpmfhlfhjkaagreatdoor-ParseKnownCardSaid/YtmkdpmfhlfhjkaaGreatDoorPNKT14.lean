/-
  Steps of the proof: contracts of functions and plain facts that the statement rests on.
-/
import Derived.Test.YtmkdpmfhlfhjkaaGreatDoorPart1
set_option linter.all false
namespace Go.Proofs.YtmkdpmfhlfhjkaaGreatDoor
open Go.Ab
section
variable {H:List AO}
def sgls:List UInt8:=[123,125,40,41,58,59,44,43,45,42,47,37,60,62,61]
end
end Go.Proofs.YtmkdpmfhlfhjkaaGreatDoor
