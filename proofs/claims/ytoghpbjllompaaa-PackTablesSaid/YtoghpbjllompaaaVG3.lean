/-
  Steps of the proof: contracts of functions and plain facts that the statement rests on.
-/
import Derived.Test.YtoghpbjllompaaaVG1
import Derived.Test.YtoghpbjllompaaaVG2
set_option linter.all false
namespace Go.Proofs.Ytoghpbjllompaaa.Rc
open Go.Ab
/-- What a player saw. -/
structure Vw where
  pl : Int
  lv : Int
  sn : List Int
  inf : Int
def Vw.cells (v : Vw) : List SV := [i64 v.pl, i64 v.lv, .slc (ints v.sn) v.sn.length, i64 v.inf]
def Nd.cN (x : Nd) : List SV := [i64 x.k, i64 x.p, i64 x.i, slN x.nx, slN x.ws, slN x.ps]
def icN (x : Int × Int) : List SV := [i64 x.1, i64 x.2]
def lcN (x : Int × Int × Int) : List SV := [i64 x.1, i64 x.2.1, i64 x.2.2]
theorem Vw.len (v : Vw) : v.cells.length = 4 := rfl
/-- What stays while a game is made. -/
structure Mc where
  l : List Int
  lv : List (Int × Int × Int)
  vl : Nat
  most : Int
  zero : Bool
  pl : Int
/-- What changes. -/
structure Ms where
  at' : Int
  pend : Int
  vn : Nat
  vi : Nat
  vv : Nat
  ns : List Nd
  is : List (Int × Int)
  vs : List Vw
section
variable (a : Nat) (c : Mc) (s : Ms)
def Mc.D : AO := ⟨[.slc (ints c.l) c.l.length, i64 s.at'], 63, 0, true⟩
def Mc.M : AO := ⟨[.ptr (.own a 0 0 0 0) 0, .own (a + 2) 0 c.lv.length 3 c.vl, .own (a + 3) 0 s.vs.length 4 s.vv, i64 c.most, i64 s.pend, bl c.zero, bl false, i64 c.pl, .own (a + 4) 0 s.ns.length 6 s.vn, .own (a + 5) 0 s.is.length 2 s.vi], 93, 0, true⟩
def Mc.L : AO := ⟨rws lcN c.lv, 95, c.vl, true⟩
def Mc.V : AO := ⟨rws Vw.cells s.vs, 135, s.vv, true⟩
def Mc.N : AO := ⟨rws Nd.cN s.ns, 74, s.vn, true⟩
def Mc.I : AO := ⟨rws icN s.is, 72, s.vi, true⟩
end
/-- The heap of a maker. -/
def Mc.hp (c : Mc) (A B : List AO) (s : Ms) : List AO := A ++ (c.D s :: c.M A.length s :: c.L :: Mc.V s :: Mc.N s :: Mc.I s :: B)
section
variable {A B : List AO} {c : Mc} {s : Ms}
end
end Go.Proofs.Ytoghpbjllompaaa.Rc

