/-
  Steps of the proof: contracts of functions and plain facts that the statement rests on.
-/
import Derived.Test.YtoghpbjllompaaaVG10
set_option linter.all false
namespace Go.Proofs.Ytoghpbjllompaaa.Rc
open Go.Ab
theorem Wlk.pos {b h : Nat} {sub : List Nd} (hw : Wlk b h sub) : 1 ≤ sub.length := by
  rcases sub with _ | ⟨x, r⟩
  · obtain ⟨m, h1, _⟩ := hw (List.replicate b phN) [] 0 0 0 (by simp) (by simp)
    simp [walkR] at h1
  · simp
structure Made (pl0 most : Int) (g : Gm) : Prop where
  pl : g.pl = pl0
  n1 : 1 ≤ g.ns.length
  ml : (g.ns.length : Int) ≤ most
  il : g.is.length ≤ g.ns.length
  wlk : Wlk 0 10 g.ns
  good : ∀ x ∈ g.ns, x.good pl0 g.is
  rg : rg g.ns 0 = some g.is.length
  isr : ∀ q ∈ g.is, 0 ≤ q.1 ∧ q.1 < pl0 ∧ 1 ≤ q.2 ∧ q.2 ≤ 3
theorem Made.form {pl most : Int} {g : Gm} (h : Made pl most g) (p1 : 1 ≤ pl) (p4 : pl ≤ 4) (hm : most ≤ 200) : g.formE = 0 := by
  have := h.ml; have := h.il; have := h.pl; have := h.n1
  exact made_ok (by omega) (by omega) h.n1 (by omega) (by omega) h.wlk (by omega) (by rw [h.pl]; exact h.good) h.rg
section
variable {H : List AO}
end
end Go.Proofs.Ytoghpbjllompaaa.Rc

