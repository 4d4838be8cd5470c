/-
  Steps of the proof: contracts of functions and plain facts that the statement rests on.
-/
import Derived.Test.YtbfeaikiiamhaaaH_D14
set_option linter.all false
namespace Go.Proofs.Ytbfeaikiiamhaaa.Rc
open Go.Ab
section
variable {H : List AO} {x y : SV} {l m : List Int}
theorem loop23 (hx : IsI H x l) (hy : IsI H y m) (hl : l.length < 4611686018427387904) (hlm : l.length = m.length) {N : Nat} {K : XE → Env → List AO → Prop}
    (hret : l ≠ m → ∀ env, env.get 4 = bl false → K .ret env H) (hexit : l = m → ∀ env, K (.exit 0) env H) :
    ∀ (n i : Nat) (env : Env), i + n = l.length → (∀ k (h : k < l.length), k < i → l[k] = m[k]'(by omega)) → env.get 0 = x → env.get 1 = y → env.get 5 = i64 i →
      LI Try.prog N drawB l22_0 env H K := by
  intro n
  induction n with
  | zero =>
    intro i env hi hp h0 h1 h5
    refine li_go hm l22_0.eq_1 ?_
    have e : i = l.length := by omega
    subst e
    simp -implicitDefEqProofs [h0, h1, h5, hx.vd, hx.ug, hx.sl, hx.len]
    exact hexit (List.ext_getElem hlm fun k h1 h2 => hp k h1 h1) _
  | succ n ih =>
    intro i env hi hp h0 h1 h5
    refine li_go hm l22_0.eq_1 ?_
    have hlt : i < l.length := by omega
    have hlt' : i < m.length := by omega
    simp -implicitDefEqProofs [h0, h1, h5, hlt, hlt', hx.vd, hx.ug, hx.sl, hx.len, hx.v hlt, hx.ok hlt, hy.vd, hy.ug, hy.sl, hy.len, hy.v hlt', hy.ok hlt']
    by_cases hc : l[i] = m[i]
    · rw [if_pos hc]
      refine ih (i + 1) _ (by omega) ?_ ?_ ?_ ?_
      rotate_left
      · simp [h0]
      · simp [h1]
      · simp [wrap_suc (show i < 9223372036854775807 by omega)]
      intro k hk hki
      by_cases e : k = i
      · subst e; exact hc
      · exact hp k hk (by omega)
    · rw [if_neg hc]
      exact hret (fun e => hc (by subst e; rfl)) _ (by simp)
theorem ok22 (hx : IsI H x l) (hy : IsI H y m) (hl : l.length < 4611686018427387904) : Ok Try.prog 22 [x, y] H (.ret (bl (decide (l = m)))) H := by
  refine ok_fn hm Try.func22 c22 (by simp) fun hcl => ?_
  by_cases hlm : l.length = m.length
  · simp -implicitDefEqProofs [i22, r22, hx.vd, hx.ug, hx.sl, hx.len, hy.vd, hy.ug, hy.sl, hy.len, hlm]
    refine loop23 hx hy hl hlm (fun hne env h4 => ?_) (fun he env => ?_) l.length 0 _ (by omega) (by omega) (by simp) (by simp) (by simp)
    · simp -implicitDefEqProofs [h4, hne]
      exact cv_id
    · simp -implicitDefEqProofs [he]
      exact cv_id
  · simp -implicitDefEqProofs [i22, r22, hx.vd, hx.ug, hx.sl, hx.len, hy.vd, hy.ug, hy.sl, hy.len, show ¬ ((l.length : Int) = m.length) by omega, hlm]
    have : l ≠ m := fun e => hlm (by rw [e])
    simp [this]
    exact cv_id
theorem ok22s (hx : IsI H x l) (hy : IsI H y l) (hl : l.length < 4611686018427387904) : Ok Try.prog 22 [x, y] H (.ret (bl true)) H := by simpa using ok22 hx hy hl
end
section
variable {H : List AO} {g : Gm} {x : Nd} {is : List (Int × Int)}
set_option maxRecDepth 10000 in
theorem loop42 (hl : is.length < 4611686018427387904) {N : Nat} {K : XE → Env → List AO → Prop} (hexit : ∀ env, K (.exit 0) env H) :
    ∀ (n i : Nat) (env : Env), i + n = is.length → env.get 0 = .slc (infs is) is.length → env.get 1 = .slc (infs is) is.length → env.get 5 = i64 i → LI Try.prog N drawB l40_0 env H K := by
  intro n
  induction n with
  | zero =>
    intro i env hi h0 h1 h5
    refine li_go hm l40_0.eq_1 ?_
    have e : i = is.length := by omega
    subst e
    simp -implicitDefEqProofs [h0, h1, h5]
    exact hexit _
  | succ n ih =>
    intro i env hi h0 h1 h5
    refine li_go hm l40_0.eq_1 ?_
    have hlt : i < is.length := by omega
    have w1 : IntKind.i64.wrap ((i : Int) + 1) = ((i + 1 : Nat) : Int) := wrap_succ (by omega)
    simp -implicitDefEqProofs [h0, h1, h5, hlt, infs_at hlt, infs_min hlt, infs_ge hlt]
    rw [w1]
    exact ih (i + 1) _ (by omega) (by simp) (by simp) (by simp)
theorem ok40 (hl : is.length < 4611686018427387904) : Ok Try.prog 40 [.slc (infs is) is.length, .slc (infs is) is.length] H (.ret (bl true)) H := by
  refine ok_fn hm Try.func40 c40 (by simp) fun hcl => ?_
  simp -implicitDefEqProofs [i40, r40]
  refine loop42 (is := is) hl (fun env => ?_) is.length 0 _ (by omega) (by simp) (by simp) (by simp)
  simp -implicitDefEqProofs
  exact cv_id
theorem isc (H : List AO) (l : List Int) : IsI H (.slc (ints l) l.length) l := IsI.slc H l
set_option maxRecDepth 10000 in
theorem ok41 (h1 : x.nx.length < 4611686018427387904) (h2 : x.ws.length < 4611686018427387904) (h3 : x.ps.length < 4611686018427387904) : Ok Try.prog 41 [.agg x.cells, .agg x.cells] H (.ret (bl true)) H := by
  refine ok_fn hm Try.func41 c41 (by simp) fun hcl => ?_
  simp -implicitDefEqProofs [i41, r41, Nd.cells, sl]
  refine callq_st (fun _ => ok22s (l := x.nx) (isc _ _) (isc _ _) h1) ?_
  simp -implicitDefEqProofs
  refine callq_st (fun _ => ok22s (l := x.ws) (isc _ _) (isc _ _) h2) ?_
  simp -implicitDefEqProofs
  refine callq_st (fun _ => ok22s (l := x.ps) (isc _ _) (isc _ _) h3) ?_
  simp -implicitDefEqProofs
  exact cv_fz 1 hcl rfl (by simp)
/-- The nodes of a copy: no row where there are none. -/
def nsv (g : Gm) : SV := if g.ns = [] then nl else .slc (nds g.ns) g.ns.length
theorem nsv_nil (h : g.ns = []) : nsv g = nl := if_pos h
theorem nsv_ne (h : g.ns ≠ []) : nsv g = .slc (nds g.ns) g.ns.length := if_neg h
theorem ok33 : Ok Try.prog 33 [.agg g.cells] H (.ret (i64 g.formE)) H := by
  refine ok_fn hm Try.func33 c33 (by simp) fun hcl => ?_
  simp -implicitDefEqProofs [i33, r33, Gm.cells]
  have hh := fun H => ok49 (H := H) (g := g)
  simp only [Gm.cells] at hh
  refine call_go (hh _) ?_
  unfold Gm.walked Gm.formE
  by_cases h : g.err0 = 0
  · simp -implicitDefEqProofs [h]
    exact cv_fz 1 hcl rfl (by simp)
  · simp -implicitDefEqProofs [h]
    exact cv_fz 1 hcl rfl (by simp)
end
end Go.Proofs.Ytbfeaikiiamhaaa.Rc

