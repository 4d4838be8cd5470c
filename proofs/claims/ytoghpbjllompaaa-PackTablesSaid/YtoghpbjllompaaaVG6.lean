/-
  Steps of the proof: contracts of functions and plain facts that the statement rests on.
-/
import Derived.Test.YtoghpbjllompaaaVG5
set_option linter.all false
namespace Go.Proofs.Ytoghpbjllompaaa.Rc
open Go.Ab
section
variable {A B : List AO} {c : Mc} {s : Ms}
end
end Go.Proofs.Ytoghpbjllompaaa.Rc

