/- Steps of the proof. -/
import Derived.Test.YtmkdpmfhlfhjkaaGreatDoorPKb
set_option linter.all false
namespace Go.Proofs.YtmkdpmfhlfhjkaaGreatDoor
open Go.Ab
theorem pn:(QG ([103,97,109,101,32,103,59,32,112,108,97,121,101,114,115,32,49,59,32]++rep [118,97,114,32,97,32,61,32,49,59,32] 41++[101,110,100,32,123,32,112,97,121,32,48,59,32,125,32])).2=(12,463):=by kernel_rfl
end Go.Proofs.YtmkdpmfhlfhjkaaGreatDoor
