/- Steps of the proof. -/
import Derived.Test.YtmkdpmfhlfhjkaaGreatDoorPNKT16
set_option linter.all false
namespace Go.Proofs.YtmkdpmfhlfhjkaaGreatDoor
open Go.Ab
end Go.Proofs.YtmkdpmfhlfhjkaaGreatDoor
