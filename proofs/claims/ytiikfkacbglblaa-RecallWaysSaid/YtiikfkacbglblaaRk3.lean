/-
  Steps of the proof: contracts of functions and plain facts that the statement rests on.
-/
import Derived.Test.YtiikfkacbglblaaRk0
set_option linter.all false
namespace Go.Proofs.Ytiikfkacbglblaa
open Go.Ab
set_option maxRecDepth 100000
theorem q4_2 : segB rows 1000 40 40 g4_2 k4_2 h4_1 e4_2 h4_2 = true := by kernel_rfl
end Go.Proofs.Ytiikfkacbglblaa

