/-
  Steps of the proof: contracts of functions and plain facts that the statement rests on.
-/
import Derived.Test.YtoghpbjllompaaaVG8
set_option linter.all false
namespace Go.Proofs.Ytoghpbjllompaaa.Rc
open Go.Ab
def IC.nth : Nat → IC → IC
  | 0, .seq a _ => a
  | n + 1, .seq _ b => IC.nth n b
  | _, i => i
def IC.tl : Nat → IC → IC
  | n + 1, .seq _ b => IC.tl n b
  | _, i => i
def t60 : IC := IC.tl 8 i56
theorem h60 : i56 = .seq (IC.nth 0 i56) (.seq (IC.nth 1 i56) (.seq (IC.nth 2 i56) (.seq (IC.nth 3 i56) (.seq (IC.nth 4 i56) (.seq (IC.nth 5 i56) (.seq (IC.nth 6 i56) (.seq (IC.nth 7 i56) t60))))))) := rfl
section
variable {A B : List AO} {c : Mc} {s s2 : Ms} {level info many : Nat} {x0 x1 x2 : Int} {seen : List (List Int)}
end
end Go.Proofs.Ytoghpbjllompaaa.Rc

