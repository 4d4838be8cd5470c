/-
  Steps of the proof: contracts of functions and plain facts that the statement rests on.
-/
import Derived.Test.YtbfeaikiiamhaaaH_D1
set_option linter.all false
namespace Go.Proofs.Ytbfeaikiiamhaaa.Rc
open Go.Ab
/-- A node. -/
structure Nd where
  k : Int
  p : Int
  i : Int
  nx : List Int
  ws : List Int
  ps : List Int
def sl (l : List Int) : SV := .slc (ints l) l.length
def Nd.cells (x : Nd) : List SV := [i64 x.k, i64 x.p, i64 x.i, sl x.nx, sl x.ws, sl x.ps]
def nds : List Nd → List SV
  | [] => []
  | x :: r => x.cells ++ nds r
def infs : List (Int × Int) → List SV
  | [] => []
  | x :: r => i64 x.1 :: i64 x.2 :: infs r
/-- A game. -/
structure Gm where
  pl : Int
  ns : List Nd
  is : List (Int × Int)
def Gm.cells (g : Gm) : List SV := [i64 g.pl, .slc (nds g.ns) g.ns.length, .slc (infs g.is) g.is.length]
/-- A walker. -/
structure Wk (H : List AO) (j : Nat) (g : Gm) (a b c : SV) : Prop where
  o : objCells H j 0 = [i64 g.pl, .slc (nds g.ns) g.ns.length, .slc (infs g.is) g.is.length, a, b, c]
  lt : j < H.length
theorem Wk.app {H : List AO} {j : Nat} {g : Gm} {a b c : SV} (h : Wk H j g a b c) (L : List AO) : Wk (H ++ L) j g a b c := ⟨by rw [objCells_app L h.lt]; exact h.o, by have := h.lt; simp; omega⟩
def Nd.chance (x : Nd) : Int := if x.p ≠ 0 ∨ x.i ≠ 0 ∨ 0 < x.ps.length ∨ x.nx.length < 1 ∨ 60 < x.nx.length ∨ x.ws.length ≠ x.nx.length then 3 else within 1 1000 x.ws
def Nd.move (g : Gm) (x : Nd) : Int := if 0 < x.ws.length ∨ 0 < x.ps.length ∨ x.nx.length < 1 ∨ 10 < x.nx.length then 3 else
  if within 0 (g.pl - 1) [x.p] ≠ 0 then within 0 (g.pl - 1) [x.p] else within 0 (g.is.length - 1) [x.i]
def Nd.end (g : Gm) (x : Nd) : Int := if x.p ≠ 0 ∨ x.i ≠ 0 ∨ 0 < x.nx.length ∨ 0 < x.ws.length ∨ (x.ps.length : Int) ≠ g.pl then 3 else within (-1000000) 1000000 x.ps
def Nd.err (g : Gm) (x : Nd) : Int := if x.k < 1 ∨ 3 < x.k then 3 else if x.k = 1 then x.chance else if x.k = 2 then x.move g else x.end g
section
variable {x : Nd} {H : List AO} {j : Nat} {g : Gm} {a b c : SV}
theorem ok63 (h : j < H.length) : Ok Try.prog 63 [.ptr (.own j 0 0 0 0) 0, .agg x.cells] H (.ret (i64 x.chance)) H := by
  refine ok_fn hm Try.func63 c63 (by simp [Nd.cells, sl, h]) fun hcl => ?_
  simp -implicitDefEqProofs [i63, r63, Nd.cells, sl]
  have e : x.chance = if (((((¬x.p = 0 ∨ ¬x.i = 0) ∨ 0 < x.ps.length) ∨ (x.nx.length : Int) < 1) ∨ 60 < (x.nx.length : Int)) ∨ ¬(x.ws.length : Int) = x.nx.length) then 3 else within 1 1000 x.ws := by
    unfold Nd.chance
    congr 1
    simp only [eq_iff_iff]; omega
  rw [e]
  split
  · exact cv_fz 1 hcl rfl (by simp)
  · rename_i hc
    refine call_go (ok68 (IsI.slc _ _) (by omega) 1 1000) ?_
    simp -implicitDefEqProofs
    exact cv_fz 1 hcl rfl (by simp)
theorem ok65 (h : Wk H j g a b c) (h4 : g.pl ≤ 4) : Ok Try.prog 65 [.ptr (.own j 0 0 0 0) 0, .agg x.cells] H (.ret (i64 (x.end g))) H := by
  have ho := h.o
  refine ok_fn hm Try.func65 c65 (by simp [Nd.cells, sl, h.lt]) fun hcl => ?_
  simp -implicitDefEqProofs [i65, r65, Nd.cells, sl, (h.app _).o]
  have e : x.end g = if ((((¬x.p = 0 ∨ ¬x.i = 0) ∨ 0 < x.nx.length) ∨ 0 < x.ws.length) ∨ ¬(x.ps.length : Int) = g.pl) then 3 else within (-1000000) 1000000 x.ps := by
    unfold Nd.end
    congr 1
    simp only [eq_iff_iff]; omega
  rw [e]
  split
  · exact cv_fz 1 hcl rfl (by simp)
  · rename_i hc
    refine call_go (ok68 (IsI.slc _ _) (by omega) (-1000000) 1000000) ?_
    simp -implicitDefEqProofs
    exact cv_fz 1 hcl rfl (by simp)
theorem ok64 (h : Wk H j g a b c) (h1 : 1 ≤ g.pl) (h4 : g.pl ≤ 4) (h5 : g.is.length ≤ 200) : Ok Try.prog 64 [.ptr (.own j 0 0 0 0) 0, .agg x.cells] H (.ret (i64 (x.move g))) H := by
  refine ok_fn hm Try.func64 c64 (by simp [Nd.cells, sl, h.lt]) fun hcl => ?_
  have w1 : IntKind.i64.wrap (g.pl - 1) = g.pl - 1 := wrap_id (by omega) (by omega)
  have w2 : IntKind.i64.wrap ((g.is.length : Int) - 1) = (g.is.length : Int) - 1 := wrap_id (by omega) (by omega)
  simp -implicitDefEqProofs [i64x, r64, Nd.cells, sl, (h.app _).o, w1, w2]
  have e : x.move g = if ((0 < x.ws.length ∨ 0 < x.ps.length) ∨ (x.nx.length : Int) < 1) ∨ 10 < (x.nx.length : Int) then 3 else
      if within 0 (g.pl - 1) [x.p] ≠ 0 then within 0 (g.pl - 1) [x.p] else within 0 (g.is.length - 1) [x.i] := by
    unfold Nd.move
    congr 1
    simp only [eq_iff_iff]; omega
  rw [e]
  split
  · exact cv_fz 1 hcl rfl (by simp)
  · rename_i hc
    refine callq_go (fun _ => ok68 (IsI.own0 H _ 1 0 [x.p] [] 3 rfl) (by simp) 0 (g.pl - 1)) ?_
    by_cases hw : within 0 (g.pl - 1) [x.p] = 0
    · simp -implicitDefEqProofs [hw, (h.app _).o, w2]
      refine callq_go (fun _ => ok68 (IsI.own0 H _ 2 0 [x.i] [] 3 rfl) (by simp) 0 (g.is.length - 1)) ?_
      simp -implicitDefEqProofs
      exact cv_fz 1 hcl rfl (by simp [hw])
    · simp -implicitDefEqProofs [hw]
      exact cv_fz 1 hcl rfl (by simp [hw])
theorem ok59 (h : Wk H j g a b c) (h1 : 1 ≤ g.pl) (h4 : g.pl ≤ 4) (h5 : g.is.length ≤ 200) : Ok Try.prog 59 [.ptr (.own j 0 0 0 0) 0, .agg x.cells] H (.ret (i64 (x.err g))) H := by
  refine ok_fn hm Try.func59 c59 (by simp [Nd.cells, sl, h.lt]) fun hcl => ?_
  simp -implicitDefEqProofs [i59, r59, Nd.cells, sl, (h.app _).o]
  unfold Nd.err
  split
  · exact ⟨rfl, cv_fz 1 hcl rfl (by rfl)⟩
  · rename_i hc
    have hk : x.k = 1 ∨ x.k = 2 ∨ x.k = 3 := by omega
    rcases hk with hk | hk | hk
    · simp -implicitDefEqProofs [hk]
      refine ⟨rfl, call_go (by rw [← hk]; exact ok63 (x := x) (by simp; have := h.lt; omega)) ?_⟩
      simp -implicitDefEqProofs
      exact cv_fz 1 hcl rfl (by simp [hk])
    · simp -implicitDefEqProofs [hk]
      refine ⟨rfl, call_go (by rw [← hk]; exact ok64 (x := x) (h.app _) h1 h4 h5) ?_⟩
      simp -implicitDefEqProofs
      exact cv_fz 1 hcl rfl (by simp [hk])
    · simp -implicitDefEqProofs [hk]
      refine ⟨rfl, call_go (by rw [← hk]; exact ok65 (x := x) (h.app _) h4) ?_⟩
      simp -implicitDefEqProofs
      exact cv_fz 1 hcl rfl (by simp [hk])
end
end Go.Proofs.Ytbfeaikiiamhaaa.Rc

