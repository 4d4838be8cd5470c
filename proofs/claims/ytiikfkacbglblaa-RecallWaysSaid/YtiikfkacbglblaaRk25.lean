/-
  Steps of the proof: contracts of functions and plain facts that the statement rests on.
-/
import Derived.Test.YtiikfkacbglblaaRk0
set_option linter.all false
namespace Go.Proofs.Ytiikfkacbglblaa
open Go.Ab
set_option maxRecDepth 100000
theorem q4_24 : segB rows 1000 40 40 g4_24 k4_24 h4_23 e4_24 h4_24 = true := by kernel_rfl
end Go.Proofs.Ytiikfkacbglblaa

