/-
  Steps of the proof: contracts of functions and plain facts that the statement rests on.
-/
import Derived.Test.YtoghpbjllompaaaVG6
set_option linter.all false
namespace Go.Proofs.Ytoghpbjllompaaa.Rc
open Go.Ab
/-- What stays, in its bounds. -/
structure Mc.Good (c : Mc) : Prop where
  l : c.l.length < 4611686018427387904
  p1 : 1 ≤ c.pl
  p2 : c.pl ≤ 1000
  m : c.most ≤ 2000
  lv : c.lv.length ≤ 100
  lvr : ∀ q ∈ c.lv, -1 ≤ q.1 ∧ q.1 < c.pl ∧ 2 ≤ q.2.1 ∧ q.2.1 ≤ 3
/-- What holds of the maker's state at a level. -/
structure MInv (c : Mc) (s : Ms) (level : Nat) : Prop where
  a0 : 0 ≤ s.at'
  vl : s.vs.length = s.is.length
  vi : ∀ j (h : j < s.vs.length), s.vs[j].inf = j ∧ s.vs[j].pl = (s.is[j]'(by omega)).1
  vsn : ∀ v ∈ s.vs, v.sn.length ≤ 100
  used : ∀ j (h : j < s.vs.length), (level : Int) ≤ s.vs[j].lv → ∃ x ∈ s.ns, x.k = 2 ∧ x.i = j
  isr : ∀ q ∈ s.is, 0 ≤ q.1 ∧ q.1 < c.pl ∧ 1 ≤ q.2 ∧ q.2 ≤ 3
  nsr : ∀ x ∈ s.ns, x.k = 2 → 0 ≤ x.i ∧ x.i < s.is.length
  il : s.is.length ≤ s.ns.length
  ml : (s.ns.length : Int) + s.pend ≤ c.most
/-- What a subtree that has been made adds. -/
structure MPost (c : Mc) (s s' : Ms) (level h : Nat) (sub : List Nd) (isN : List (Int × Int)) (vsN : List Vw) : Prop where
  ns : s'.ns = s.ns ++ sub
  is : s'.is = s.is ++ isN
  vs : s'.vs = s.vs ++ vsN
  pend : s'.pend = s.pend - 1
  lv : ∀ v ∈ vsN, (level : Int) ≤ v.lv
  wlk : Wlk s.ns.length h sub
  rg : rg sub s.is.length = some s'.is.length
  good : ∀ x ∈ sub, x.good c.pl s'.is
  inv : MInv c s' level
/-- What the children made so far add. -/
structure KPost (c : Mc) (s s' : Ms) (level h : Nat) (nx : List Int) (subs : List Nd) (isN : List (Int × Int)) (vsN : List Vw) : Prop where
  ns : s'.ns = s.ns ++ subs
  is : s'.is = s.is ++ isN
  vs : s'.vs = s.vs ++ vsN
  pend : s'.pend = s.pend - nx.length
  lv : ∀ v ∈ vsN, (level : Int) ≤ v.lv
  kds : Kds s.ns.length h nx subs
  rg : rg subs s.is.length = some s'.is.length
  good : ∀ x ∈ subs, x.good c.pl s'.is
  inv : MInv c s' level
theorem KPost.zero {c : Mc} {s : Ms} {level h : Nat} (hi : MInv c s level) : KPost c s s level h [] [] [] [] :=
  ⟨by simp, by simp, by simp, by simp, by simp, Kds.nil _ _, by simp [Proofs.Ytoghpbjllompaaa.Rc.rg], by simp, hi⟩
section
variable {A B : List AO} {c : Mc} {s : Ms}
end
end Go.Proofs.Ytoghpbjllompaaa.Rc

