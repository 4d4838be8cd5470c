/-
  Steps of the proof: contracts of functions and plain facts that the statement rests on.
-/
import Derived.Test.YtogjmpkehjfecaaCore5
import Derived.Test.YtogjmpkehjfecaaRows
set_option linter.all false
namespace Go.Proofs.Ytogjmpkehjfecaa
open Go.Ab
instance glob:GlobEnv:=⟨fun _=>none⟩
end Go.Proofs.Ytogjmpkehjfecaa
