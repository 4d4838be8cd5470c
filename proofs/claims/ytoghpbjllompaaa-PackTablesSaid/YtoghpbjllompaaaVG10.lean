/-
  Steps of the proof: contracts of functions and plain facts that the statement rests on.
-/
import Derived.Test.YtoghpbjllompaaaVG9
set_option linter.all false
namespace Go.Proofs.Ytoghpbjllompaaa.Rc
open Go.Ab
section
variable {A B : List AO} {c : Mc} {s : Ms} {level : Nat} {seen : List (List Int)}
def Ms.push (s : Ms) : Ms := { s with ns := s.ns ++ [phN], vn := s.vn + 1, pend := s.pend - 1 }
def m60 : IC := .seq (IC.nth 4 i56) (.seq (IC.nth 5 i56) (.seq (IC.nth 6 i56) (.seq (IC.nth 7 i56) t60)))
theorem h60' : i56 = .seq (IC.nth 0 i56) (.seq (IC.nth 1 i56) (.seq (IC.nth 2 i56) (.seq (IC.nth 3 i56) m60))) := rfl
end
end Go.Proofs.Ytoghpbjllompaaa.Rc

