/-
  Steps of the proof: contracts of functions and plain facts that the statement rests on.
-/
import Derived.Test.YtiikfkacbglblaaRk0
set_option linter.all false
namespace Go.Proofs.Ytiikfkacbglblaa
open Go.Ab
set_option maxRecDepth 100000
theorem q4_8 : segB rows 1000 40 40 g4_8 k4_8 h4_7 e4_8 h4_8 = true := by kernel_rfl
end Go.Proofs.Ytiikfkacbglblaa

