/-
  Steps of the proof: contracts of functions and plain facts that the statement rests on.
-/
import Derived.Test.YtbfeaikiiamhaaaIr33
import Derived.Test.YtbfeaikiiamhaaaCore4
set_option linter.all false
namespace Go.Proofs.Ytbfeaikiiamhaaa.Rc
open Go.Ab
theorem hm' : Try.prog.follows .mixedOrders = true := Try.checked.mixed
end Go.Proofs.Ytbfeaikiiamhaaa.Rc

