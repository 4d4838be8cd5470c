/-
  Steps of the proof: contracts of functions and plain facts that the statement rests on.
-/
import Derived.Test.YtffafdbipfadoaaIr35
set_option linter.all false
namespace Go.Proofs.Ytffafdbipfadoaa
open Go.Ab
theorem hm' : Try.prog.follows .mixedOrders = true := Try.checked.mixed
theorem k9 : closedB rows 1000 10 20 9 = true := by kernel_rfl
theorem k4 : closedB rows 1000 10 20 4 = true := by kernel_rfl
theorem known : Ok Try.prog 4 [] [] (.ret (bl true)) [] := closed_ok hm' rows_ok k4
end Go.Proofs.Ytffafdbipfadoaa
