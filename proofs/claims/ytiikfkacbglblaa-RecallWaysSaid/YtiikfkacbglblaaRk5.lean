/-
  Steps of the proof: contracts of functions and plain facts that the statement rests on.
-/
import Derived.Test.YtiikfkacbglblaaRk0
set_option linter.all false
namespace Go.Proofs.Ytiikfkacbglblaa
open Go.Ab
set_option maxRecDepth 100000
theorem q4_4 : segB rows 1000 40 40 g4_4 k4_4 h4_3 e4_4 h4_4 = true := by kernel_rfl
end Go.Proofs.Ytiikfkacbglblaa

