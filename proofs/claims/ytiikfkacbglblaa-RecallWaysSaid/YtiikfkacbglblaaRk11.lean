/-
  Steps of the proof: contracts of functions and plain facts that the statement rests on.
-/
import Derived.Test.YtiikfkacbglblaaRk0
set_option linter.all false
namespace Go.Proofs.Ytiikfkacbglblaa
open Go.Ab
set_option maxRecDepth 100000
theorem q4_10 : segB rows 1000 40 40 g4_10 k4_10 h4_9 e4_10 h4_10 = true := by kernel_rfl
end Go.Proofs.Ytiikfkacbglblaa

