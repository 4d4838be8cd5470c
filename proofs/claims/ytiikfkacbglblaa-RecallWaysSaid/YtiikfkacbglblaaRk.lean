/-
  Steps of the proof: contracts of functions and plain facts that the statement rests on.
-/
import Derived.Test.YtiikfkacbglblaaRk1
import Derived.Test.YtiikfkacbglblaaRk2
import Derived.Test.YtiikfkacbglblaaRk3
import Derived.Test.YtiikfkacbglblaaRk4
import Derived.Test.YtiikfkacbglblaaRk5
import Derived.Test.YtiikfkacbglblaaRk6
import Derived.Test.YtiikfkacbglblaaRk7
import Derived.Test.YtiikfkacbglblaaRk8
import Derived.Test.YtiikfkacbglblaaRk9
import Derived.Test.YtiikfkacbglblaaRk10
import Derived.Test.YtiikfkacbglblaaRk11
import Derived.Test.YtiikfkacbglblaaRk12
import Derived.Test.YtiikfkacbglblaaRk13
import Derived.Test.YtiikfkacbglblaaRk14
import Derived.Test.YtiikfkacbglblaaRk15
import Derived.Test.YtiikfkacbglblaaRk16
import Derived.Test.YtiikfkacbglblaaRk17
import Derived.Test.YtiikfkacbglblaaRk18
import Derived.Test.YtiikfkacbglblaaRk19
import Derived.Test.YtiikfkacbglblaaRk20
import Derived.Test.YtiikfkacbglblaaRk21
import Derived.Test.YtiikfkacbglblaaRk22
import Derived.Test.YtiikfkacbglblaaRk23
import Derived.Test.YtiikfkacbglblaaRk24
import Derived.Test.YtiikfkacbglblaaRk25
import Derived.Test.YtiikfkacbglblaaRk26
import Derived.Test.YtiikfkacbglblaaRk27
import Derived.Test.YtiikfkacbglblaaRk28
set_option linter.all false
namespace Go.Proofs.Ytiikfkacbglblaa
open Go.Ab
set_option maxRecDepth 100000
theorem hm4 : Try.prog.follows .mixedOrders = true := Try.checked.mixed
theorem run4 : runC (goB default noRt (tblOf rows) 1000 40 40) 1000 0 i4 (argsEnv []) [] = runC (goB default noRt (tblOf rows) 1000 40 40) 1000 0 g4_27 k4_27 h4_26 :=
  run_seq (seg_spec q4_0) (run_keep (env' := k4_1) (by rfl) (run_seq (seg_spec q4_1) (run_keep (env' := k4_2) (by rfl) (run_seq (seg_spec q4_2) (run_keep (env' := k4_3) (by rfl) (run_seq (seg_spec q4_3) (run_keep (env' := k4_4) (by rfl) (run_seq (seg_spec q4_4) (run_keep (env' := k4_5) (by rfl) (run_seq (seg_spec q4_5) (run_keep (env' := k4_6) (by rfl) (run_seq (seg_spec q4_6) (run_keep (env' := k4_7) (by rfl) (run_seq (seg_spec q4_7) (run_keep (env' := k4_8) (by rfl) (run_seq (seg_spec q4_8) (run_keep (env' := k4_9) (by rfl) (run_seq (seg_spec q4_9) (run_keep (env' := k4_10) (by rfl) (run_seq (seg_spec q4_10) (run_keep (env' := k4_11) (by rfl) (run_seq (seg_spec q4_11) (run_keep (env' := k4_12) (by rfl) (run_seq (seg_spec q4_12) (run_keep (env' := k4_13) (by rfl) (run_seq (seg_spec q4_13) (run_keep (env' := k4_14) (by rfl) (run_seq (seg_spec q4_14) (run_keep (env' := k4_15) (by rfl) (run_seq (seg_spec q4_15) (run_keep (env' := k4_16) (by rfl) (run_seq (seg_spec q4_16) (run_keep (env' := k4_17) (by rfl) (run_seq (seg_spec q4_17) (run_keep (env' := k4_18) (by rfl) (run_seq (seg_spec q4_18) (run_keep (env' := k4_19) (by rfl) (run_seq (seg_spec q4_19) (run_keep (env' := k4_20) (by rfl) (run_seq (seg_spec q4_20) (run_keep (env' := k4_21) (by rfl) (run_seq (seg_spec q4_21) (run_keep (env' := k4_22) (by rfl) (run_seq (seg_spec q4_22) (run_keep (env' := k4_23) (by rfl) (run_seq (seg_spec q4_23) (run_keep (env' := k4_24) (by rfl) (run_seq (seg_spec q4_24) (run_keep (env' := k4_25) (by rfl) (run_seq (seg_spec q4_25) (run_keep (env' := k4_26) (by rfl) (run_seq (seg_spec q4_26) (run_keep (env' := k4_27) (by rfl) (rfl))))))))))))))))))))))))))))))))))))))))))))))))))))))
theorem known4 : Ok Try.prog 4 [] [] (.ret (bl true)) [] := closed_of (r := ⟨i4, r4, 0, false⟩) hm4 rows_ok rfl rfl run4 q4_27
end Go.Proofs.Ytiikfkacbglblaa

