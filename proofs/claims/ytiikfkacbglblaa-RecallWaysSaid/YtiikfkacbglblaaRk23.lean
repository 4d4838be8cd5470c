/-
  Steps of the proof: contracts of functions and plain facts that the statement rests on.
-/
import Derived.Test.YtiikfkacbglblaaRk0
set_option linter.all false
namespace Go.Proofs.Ytiikfkacbglblaa
open Go.Ab
set_option maxRecDepth 100000
theorem q4_22 : segB rows 1000 40 40 g4_22 k4_22 h4_21 e4_22 h4_22 = true := by kernel_rfl
end Go.Proofs.Ytiikfkacbglblaa

