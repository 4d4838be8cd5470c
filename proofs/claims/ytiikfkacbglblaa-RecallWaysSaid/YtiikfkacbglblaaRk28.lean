/-
  Steps of the proof: contracts of functions and plain facts that the statement rests on.
-/
import Derived.Test.YtiikfkacbglblaaRk0
set_option linter.all false
namespace Go.Proofs.Ytiikfkacbglblaa
open Go.Ab
set_option maxRecDepth 100000
theorem q4_27 : endB rows 1000 40 40 r4 g4_27 k4_27 h4_26 = true := by kernel_rfl
end Go.Proofs.Ytiikfkacbglblaa

