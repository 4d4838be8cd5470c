/-
  Steps of the proof: contracts of functions and plain facts that the statement rests on.
-/
import Derived.Test.YtiikfkacbglblaaRk0
set_option linter.all false
namespace Go.Proofs.Ytiikfkacbglblaa
open Go.Ab
set_option maxRecDepth 100000
theorem q4_21 : segB rows 1000 40 40 g4_21 k4_21 h4_20 e4_21 h4_21 = true := by kernel_rfl
end Go.Proofs.Ytiikfkacbglblaa

