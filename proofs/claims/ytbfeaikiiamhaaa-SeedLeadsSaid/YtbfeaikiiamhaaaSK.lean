/-
  Steps of the proof: contracts of functions and plain facts that the statement rests on.
-/
import Derived.Test.YtbfeaikiiamhaaaIr33
set_option linter.all false
namespace Go.Proofs.Ytbfeaikiiamhaaa
open Go.Ab
theorem hm' : Try.prog.follows .mixedOrders = true := Try.checked.mixed
set_option maxRecDepth 100000
theorem awk : closedR Try.prog rt rows 1000 40 40 11 = true := by kernel_rfl
theorem ok11 : Ok Try.prog 11 [] [] (.ret (bl true)) [] := closedR_ok hm' rows_ok (fun _ _ _ => rfl) rt_ok rngs_ok awk
end Go.Proofs.Ytbfeaikiiamhaaa

