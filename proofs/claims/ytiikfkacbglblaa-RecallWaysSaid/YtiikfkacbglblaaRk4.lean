/-
  Steps of the proof: contracts of functions and plain facts that the statement rests on.
-/
import Derived.Test.YtiikfkacbglblaaRk0
set_option linter.all false
namespace Go.Proofs.Ytiikfkacbglblaa
open Go.Ab
set_option maxRecDepth 100000
theorem q4_3 : segB rows 1000 40 40 g4_3 k4_3 h4_2 e4_3 h4_3 = true := by kernel_rfl
end Go.Proofs.Ytiikfkacbglblaa

