/-
  Steps of the proof: contracts of functions and plain facts that the statement rests on.
-/
import Derived.Test.YtoghpbjllompaaaVG3
set_option linter.all false
namespace Go.Proofs.Ytoghpbjllompaaa.Rc
open Go.Ab
section
variable {A B : List AO} {c : Mc} {s : Ms}
def Ms.cut (s : Ms) : Ms := { s with is := s.is.take (s.is.length - 1), vs := s.vs.take (s.vs.length - 1) }
end
end Go.Proofs.Ytoghpbjllompaaa.Rc

