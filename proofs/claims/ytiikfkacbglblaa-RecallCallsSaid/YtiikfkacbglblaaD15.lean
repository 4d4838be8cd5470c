/-
  Steps of the proof: contracts of functions and plain facts that the statement rests on.
-/
import Derived.Test.YtiikfkacbglblaaD14
set_option linter.all false
namespace Go.Proofs.Ytiikfkacbglblaa
open Go.Ab
section
variable {H : List AO} {x y : SV} {l m : List Int}
theorem loop23 (hx : IsI H x l) (hy : IsI H y m) (hl : l.length < 4611686018427387904) (hlm : l.length = m.length) {N : Nat} {K : XE → Env → List AO → Prop}
    (hret : l ≠ m → ∀ env, env.get 4 = bl false → K .ret env H) (hexit : l = m → ∀ env, K (.exit 0) env H) :
    ∀ (n i : Nat) (env : Env), i + n = l.length → (∀ k (h : k < l.length), k < i → l[k] = m[k]'(by omega)) → env.get 0 = x → env.get 1 = y → env.get 5 = i64 i →
      LI Try.prog N drawB l23_0 env H K := by
  intro n
  induction n with
  | zero =>
    intro i env hi hp h0 h1 h5
    refine li_go hm l23_0.eq_1 ?_
    have e : i = l.length := by omega
    subst e
    simp -implicitDefEqProofs [h0, h1, h5, hx.vd, hx.ug, hx.sl, hx.len]
    exact hexit (List.ext_getElem hlm fun k h1 h2 => hp k h1 h1) _
  | succ n ih =>
    intro i env hi hp h0 h1 h5
    refine li_go hm l23_0.eq_1 ?_
    have hlt : i < l.length := by omega
    have hlt' : i < m.length := by omega
    simp -implicitDefEqProofs [h0, h1, h5, hlt, hlt', hx.vd, hx.ug, hx.sl, hx.len, hx.v hlt, hx.ok hlt, hy.vd, hy.ug, hy.sl, hy.len, hy.v hlt', hy.ok hlt']
    by_cases hc : l[i] = m[i]
    · rw [if_pos hc]
      refine ih (i + 1) _ (by omega) ?_ ?_ ?_ ?_
      rotate_left
      · simp [h0]
      · simp [h1]
      · simp [wrap_suc (show i < 9223372036854775807 by omega)]
      intro k hk hki
      by_cases e : k = i
      · subst e; exact hc
      · exact hp k hk (by omega)
    · rw [if_neg hc]
      exact hret (fun e => hc (by subst e; rfl)) _ (by simp)
theorem ok23 (hx : IsI H x l) (hy : IsI H y m) (hl : l.length < 4611686018427387904) : Ok Try.prog 23 [x, y] H (.ret (bl (decide (l = m)))) H := by
  refine ok_fn hm Try.func23 c23 (by simp) fun hcl => ?_
  by_cases hlm : l.length = m.length
  · simp -implicitDefEqProofs [i23, r23, hx.vd, hx.ug, hx.sl, hx.len, hy.vd, hy.ug, hy.sl, hy.len, hlm]
    refine loop23 hx hy hl hlm (fun hne env h4 => ?_) (fun he env => ?_) l.length 0 _ (by omega) (by omega) (by simp) (by simp) (by simp)
    · simp -implicitDefEqProofs [h4, hne]
      exact cv_id
    · simp -implicitDefEqProofs [he]
      exact cv_id
  · simp -implicitDefEqProofs [i23, r23, hx.vd, hx.ug, hx.sl, hx.len, hy.vd, hy.ug, hy.sl, hy.len, show ¬ ((l.length : Int) = m.length) by omega, hlm]
    have : l ≠ m := fun e => hlm (by rw [e])
    simp [this]
    exact cv_id
theorem ok23s (hx : IsI H x l) (hy : IsI H y l) (hl : l.length < 4611686018427387904) : Ok Try.prog 23 [x, y] H (.ret (bl true)) H := by simpa using ok23 hx hy hl
end
section
variable {H : List AO} {g : Gm} {x : Nd} {is : List (Int × Int)}
set_option maxRecDepth 10000 in
theorem loop42 (hl : is.length < 4611686018427387904) {N : Nat} {K : XE → Env → List AO → Prop} (hexit : ∀ env, K (.exit 0) env H) :
    ∀ (n i : Nat) (env : Env), i + n = is.length → env.get 0 = .slc (infs is) is.length → env.get 1 = .slc (infs is) is.length → env.get 5 = i64 i → LI Try.prog N drawB l42_0 env H K := by
  intro n
  induction n with
  | zero =>
    intro i env hi h0 h1 h5
    refine li_go hm l42_0.eq_1 ?_
    have e : i = is.length := by omega
    subst e
    simp -implicitDefEqProofs [h0, h1, h5]
    exact hexit _
  | succ n ih =>
    intro i env hi h0 h1 h5
    refine li_go hm l42_0.eq_1 ?_
    have hlt : i < is.length := by omega
    have w1 : IntKind.i64.wrap ((i : Int) + 1) = ((i + 1 : Nat) : Int) := wrap_succ (by omega)
    simp -implicitDefEqProofs [h0, h1, h5, hlt, infs_at hlt, infs_min hlt, infs_ge hlt]
    rw [w1]
    exact ih (i + 1) _ (by omega) (by simp) (by simp) (by simp)
theorem ok42 (hl : is.length < 4611686018427387904) : Ok Try.prog 42 [.slc (infs is) is.length, .slc (infs is) is.length] H (.ret (bl true)) H := by
  refine ok_fn hm Try.func42 c42 (by simp) fun hcl => ?_
  simp -implicitDefEqProofs [i42, r42]
  refine loop42 (is := is) hl (fun env => ?_) is.length 0 _ (by omega) (by simp) (by simp) (by simp)
  simp -implicitDefEqProofs
  exact cv_id
theorem isc (H : List AO) (l : List Int) : IsI H (.slc (ints l) l.length) l := IsI.slc H l
set_option maxRecDepth 10000 in
theorem ok43 (h1 : x.nx.length < 4611686018427387904) (h2 : x.ws.length < 4611686018427387904) (h3 : x.ps.length < 4611686018427387904) : Ok Try.prog 43 [.agg x.cells, .agg x.cells] H (.ret (bl true)) H := by
  refine ok_fn hm Try.func43 c43 (by simp) fun hcl => ?_
  simp -implicitDefEqProofs [i43, r43, Nd.cells, sl]
  refine callq_st (fun _ => ok23s (l := x.nx) (isc _ _) (isc _ _) h1) ?_
  simp -implicitDefEqProofs
  refine callq_st (fun _ => ok23s (l := x.ws) (isc _ _) (isc _ _) h2) ?_
  simp -implicitDefEqProofs
  refine callq_st (fun _ => ok23s (l := x.ps) (isc _ _) (isc _ _) h3) ?_
  simp -implicitDefEqProofs
  exact cv_fz 1 hcl rfl (by simp)
/-- The nodes of a copy: no row where there are none. -/
def nsv (g : Gm) : SV := if g.ns = [] then nl else .slc (nds g.ns) g.ns.length
theorem nsv_nil (h : g.ns = []) : nsv g = nl := if_pos h
theorem nsv_ne (h : g.ns ≠ []) : nsv g = .slc (nds g.ns) g.ns.length := if_neg h
set_option maxRecDepth 10000 in
theorem loop14 (hn : g.ns.length < 4611686018427387904) (hx : ∀ x ∈ g.ns, x.nx.length ≤ 80 ∧ x.ws.length ≤ 80 ∧ x.ps.length ≤ 80) {N : Nat} {K : XE → Env → List AO → Prop} {B : AO} (hB : B = ⟨[i64 g.pl, nsv g, .slc (infs g.is) g.is.length], 25, 0, true⟩)
    (hexit : ∀ env, K (.exit 0) env (H ++ [gbox g, B])) :
    ∀ (n i : Nat) (env : Env), i + n = g.ns.length → env.get 2 = .ptr (.own H.length 0 0 0 0) 0 → env.get 3 = .ptr (.own (H.length + 1) 0 0 0 0) 0 → env.get 5 = i64 i → LI Try.prog N drawB l14_0 env (H ++ [gbox g, B]) K := by
  subst hB
  intro n
  induction n with
  | zero =>
    intro i env hi h2 h3 h5
    refine li_go hm l14_0.eq_1 ?_
    have e : i = g.ns.length := by omega
    subst e
    simp -implicitDefEqProofs [h2, h3, h5, gbox]
    exact hexit _
  | succ n ih =>
    intro i env hi h2 h3 h5
    refine li_go hm l14_0.eq_1 ?_
    have hlt : i < g.ns.length := by omega
    have hxi := hx _ (List.getElem_mem hlt)
    have w1 : IntKind.i64.wrap ((i : Int) + 1) = ((i + 1 : Nat) : Int) := wrap_succ (by omega)
    have hne : g.ns ≠ [] := fun e => by rw [e] at hlt; simp at hlt
    rw [nsv_ne hne] at ih hexit ⊢
    simp -implicitDefEqProofs [h2, h3, h5, gbox, hlt, nds_at hlt, nds_min hlt, nds_ge hlt, sl]
    have hh := fun H => ok43 (H := H) (x := g.ns[i]) (by omega) (by omega) (by omega)
    simp only [Nd.cells, sl] at hh
    refine callq_go (fun _ => hh _) ?_
    simp -implicitDefEqProofs [h5]
    rw [w1]
    exact ih (i + 1) _ (by omega) (by simp [h2]) (by simp [h3]) (by simp)
set_option maxRecDepth 10000 in
theorem ok14 (hn : g.ns.length ≤ 80) (hi : g.is.length ≤ 80) (hx : ∀ x ∈ g.ns, x.nx.length ≤ 80 ∧ x.ws.length ≤ 80 ∧ x.ps.length ≤ 80) :
    Ok Try.prog 14 [.agg g.cells, .agg [i64 g.pl, nsv g, .slc (infs g.is) g.is.length]] H (.ret (bl true)) H := by
  refine ok_fn hm Try.func14 c14 (by simp) fun hcl => ?_
  have hv : (nsv g).vd = true ∧ (nsv g).ug = nsv g ∧ (nsv g).isSl = true ∧ (nsv g).slen = g.ns.length ∧ (nsv g).isCell = true ∧ (nsv g).flat = [nsv g] := by
    by_cases h : g.ns = []
    · rw [nsv_nil h, h]; exact ⟨rfl, rfl, rfl, rfl, rfl, rfl⟩
    · rw [nsv_ne h]; exact ⟨rfl, rfl, rfl, rfl, rfl, rfl⟩
  obtain ⟨v1, v2, v3, v4, v5, v6⟩ := hv
  simp -implicitDefEqProofs [i14, r14, Gm.cells, v1, v2, v3, v4, v5, v6]
  refine callq_st (fun _ => ok42 (is := g.is) (by omega)) ?_
  simp -implicitDefEqProofs
  refine loop14 (g := g) (by omega) hx rfl (fun env => ?_) g.ns.length 0 _ (by omega) (by simp) (by simp) (by simp)
  simp -implicitDefEqProofs
  exact cv_fz 1 hcl rfl (by simp)
def Nd.big (x : Nd) : Prop := (80 < x.nx.length ∨ 80 < x.ws.length) ∨ 80 < x.ps.length
instance (x : Nd) : Decidable x.big := by unfold Nd.big; infer_instance
def Gm.large (g : Gm) : Prop := (∃ x ∈ g.ns.take 81, x.big) ∨ 80 < g.ns.length ∨ 80 < g.is.length
instance (g : Gm) : Decidable g.large := by unfold Gm.large; infer_instance
theorem large_no (h : ¬ g.large) : g.ns.length ≤ 80 ∧ g.is.length ≤ 80 ∧ ∀ x ∈ g.ns, x.nx.length ≤ 80 ∧ x.ws.length ≤ 80 ∧ x.ps.length ≤ 80 := by
  unfold Gm.large at h
  have h1 : g.ns.length ≤ 80 := by
    by_cases hc : g.ns.length ≤ 80
    · exact hc
    · exact (h (.inr (.inl (by omega)))).elim
  have h2 : g.is.length ≤ 80 := by
    by_cases hc : g.is.length ≤ 80
    · exact hc
    · exact (h (.inr (.inr (by omega)))).elim
  refine ⟨h1, h2, fun x hx => ?_⟩
  have : ¬ x.big := fun hb => h (.inl ⟨x, by rwa [List.take_of_length_le (by omega)], hb⟩)
  unfold Nd.big at this; omega
set_option maxRecDepth 10000 in
theorem loop9 {N : Nat} {K : XE → Env → List AO → Prop}
    (hret : (∃ x ∈ g.ns.take 81, x.big) → ∀ env, env.get 2 = bl true → K .ret env (H ++ [gbox g])) (hexit : (¬ ∃ x ∈ g.ns.take 81, x.big) → ∀ env, env.get 1 = .ptr (.own H.length 0 0 0 0) 0 → K (.exit 0) env (H ++ [gbox g])) :
    ∀ (n i : Nat) (env : Env), i + n = (g.ns.take 81).length → (∀ k (h : k < (g.ns.take 81).length), k < i → ¬ (g.ns.take 81)[k].big) → env.get 1 = .ptr (.own H.length 0 0 0 0) 0 → env.get 3 = i64 i → LI Try.prog N drawB l9_0 env (H ++ [gbox g]) K := by
  have hle : (g.ns.take 81).length = min 81 g.ns.length := List.length_take
  intro n
  induction n with
  | zero =>
    intro i env hi hp h1 h3
    refine li_go hm l9_0.eq_1 ?_
    have hex : ¬ ∃ x ∈ g.ns.take 81, x.big := by
      rintro ⟨x, hx, hb⟩
      obtain ⟨k, hk, rfl⟩ := List.getElem_of_mem hx
      exact hp k hk (by omega) hb
    by_cases hlt : i < g.ns.length
    · simp -implicitDefEqProofs [h1, h3, gbox, hlt, show ¬ (i : Int) ≤ 80 by omega]
      exact hexit hex _ (by simp)
    · simp -implicitDefEqProofs [h1, h3, gbox, hlt]
      exact hexit hex _ (by simp)
  | succ n ih =>
    intro i env hi hp h1 h3
    refine li_go hm l9_0.eq_1 ?_
    have hlt : i < g.ns.length := by omega
    have w1 : IntKind.i64.wrap ((i : Int) + 1) = ((i + 1 : Nat) : Int) := wrap_succ (by omega)
    have hti : (g.ns.take 81)[i]'(by omega) = g.ns[i] := List.getElem_take
    simp -implicitDefEqProofs [h1, h3, gbox, hlt, show (i : Int) ≤ 80 by omega, nds_get hlt (t := 3) (by omega), nds_get hlt (t := 4) (by omega), nds_get hlt (t := 5) (by omega), nds_len, Nd.cells, sl]
    refine ⟨by omega, fun e => ⟨e, by omega⟩, fun a b => ⟨a, b⟩, fun a b => ⟨⟨a, b⟩, by omega⟩, fun a b => ⟨a, b⟩, ?_⟩
    have hbig : ((80 < (g.ns[i].nx.length : Int) ∨ 80 < (g.ns[i].ws.length : Int)) ∨ 80 < (g.ns[i].ps.length : Int)) ↔ g.ns[i].big := by unfold Nd.big; omega
    split
    · rename_i hc
      refine hret ⟨_, List.getElem_mem (show i < (g.ns.take 81).length by omega), ?_⟩ _ (by simp)
      rw [hti]; exact hbig.1 hc
    · rename_i hc
      rw [w1]
      refine ih (i + 1) _ (by omega) ?_ (by simp) (by simp)
      intro k hk hki
      by_cases e : k = i
      · subst e; rw [hti]; exact fun hb => hc (hbig.2 hb)
      · exact hp k hk (by omega)
set_option maxRecDepth 10000 in
theorem ok9 : Ok Try.prog 9 [.agg g.cells] H (.ret (bl (decide g.large))) H := by
  refine ok_fn hm Try.func9 c9 (by simp) fun hcl => ?_
  simp -implicitDefEqProofs [i9, r9, Gm.cells]
  refine loop9 (g := g) (fun hb env h2 => ?_) (fun hb env h1 => ?_) (g.ns.take 81).length 0 _ (by omega) (by omega) (by simp) (by simp)
  · simp -implicitDefEqProofs [h2]
    refine cv_fz 1 hcl rfl ?_
    simp [show g.large from .inl hb]
  · simp -implicitDefEqProofs [h1, gbox]
    refine cv_fz 1 hcl rfl ?_
    have e : decide g.large = (decide (80 < (g.ns.length : Int)) || decide (80 < (g.is.length : Int))) := by
      have : g.large ↔ (80 < g.ns.length ∨ 80 < g.is.length) := ⟨fun h => h.resolve_left hb, .inr⟩
      rw [Bool.eq_iff_iff, Bool.or_eq_true, decide_eq_true_iff, decide_eq_true_iff, decide_eq_true_iff, this]
      omega
    rw [e]
    simp
theorem ok12 : Ok Try.prog 12 [.agg g.cells] H (.ret (i64 g.formE)) H := by
  refine ok_fn hm Try.func12 c12 (by simp) fun hcl => ?_
  simp -implicitDefEqProofs [i12, r12, Gm.cells]
  have hh := fun H => ok38 (H := H) (g := g)
  simp only [Gm.cells] at hh
  refine call_go (hh _) ?_
  unfold Gm.walked Gm.formE
  by_cases h : g.err0 = 0
  · simp -implicitDefEqProofs [h]
    exact cv_fz 1 hcl rfl (by simp)
  · simp -implicitDefEqProofs [h]
    exact cv_fz 1 hcl rfl (by simp)
/-- RecallForms, as far as its code goes. -/
theorem ok3 : Ok Try.prog 3 [.agg g.cells] H (.ret (bl true)) H := by
  refine ok_fn hm Try.func3 c3 (by simp) fun hcl => ?_
  by_cases hL : g.large
  · simp -implicitDefEqProofs [i3, r3, Gm.cells]
    have hh := fun H => ok9 (H := H) (g := g)
    simp only [Gm.cells] at hh
    refine call_go (hh _) ?_
    simp -implicitDefEqProofs [hL]
    refine call_go ok10 ?_
    simp -implicitDefEqProofs
    exact cv_fz 1 hcl rfl (by simp)
  · obtain ⟨l1, l2, l3⟩ := large_no hL
    simp -implicitDefEqProofs [i3, r3, Gm.cells]
    have hh := fun H => ok9 (H := H) (g := g)
    simp only [Gm.cells] at hh
    refine call_go (hh _) ?_
    simp -implicitDefEqProofs [hL]
    have hh := fun H => ok11 (H := H) (g := g) l1 l2 l3
    simp only [Gm.cells] at hh
    refine call_go (hh _) ?_
    have hns : (if g.ns.length = 0 then nl else SV.slc (nds g.ns) g.ns.length) = nsv g := by
      unfold nsv
      by_cases h : g.ns = []
      · rw [if_pos h, if_pos (by rw [h]; rfl)]
      · rw [if_neg h, if_neg (fun e => h (List.eq_nil_of_length_eq_zero e))]
    rw [hns]
    have hv : (nsv g).isCell = true := by
      by_cases h : g.ns = []
      · rw [nsv_nil h]; rfl
      · rw [nsv_ne h]; rfl
    simp -implicitDefEqProofs [hv]
    have hh := fun H => ok12 (H := H) (g := g)
    simp only [Gm.cells] at hh
    refine callq_go (fun _ => hh _) ?_
    simp -implicitDefEqProofs [hv]
    have hh := fun H => ok13 (H := H) (g := g)
    simp only [Gm.cells] at hh
    refine callq_go (fun _ => hh _) ?_
    simp -implicitDefEqProofs [hv, form_eq]
    have hh := fun H => ok14 (H := H) (g := g) l1 l2 l3
    simp only [Gm.cells] at hh
    refine callq_st (r := bl true) (fun _ => by simpa [SV.strip] using hh _) ?_
    simp -implicitDefEqProofs
    refine callq_st (r := bl true) (fun _ => ok10) ?_
    simp -implicitDefEqProofs
    exact cv_fz 1 hcl rfl (by simp)
end
end Go.Proofs.Ytiikfkacbglblaa
