/-
  Steps of the proof: contracts of functions and plain facts that the statement rests on.
-/
import Derived.Test.YtiikfkacbglblaaD20
set_option linter.all false
namespace Go.Proofs.Ytiikfkacbglblaa
open Go.Ab
section
variable {H : List AO} {g : Gm}
theorem ok31 : Ok Try.prog 31 [.agg g.cells] H (.ret (g.out nl (sl g.wk.2.P))) H := by
  refine ok_fn hm Try.func31 c31 (by simp) fun hcl => ?_
  simp -implicitDefEqProofs [i31, r31, Gm.cells]
  have hh := fun H => ok13 (H := H) (g := g)
  simp only [Gm.cells] at hh
  refine call_go (hh _) ?_
  rw [formE_R]
  by_cases h : g.formE = 0
  · simp -implicitDefEqProofs [h]
    have hh := fun H => ok58 (H := H) (wg_of h)
    simp only [Gm.cells] at hh
    refine call_go (hh _) ?_
    simp -implicitDefEqProofs [sl]
    refine cv_fz 3 hcl rfl ?_
    simp [Gm.out, h, sl]
  · simp -implicitDefEqProofs [h]
    refine cv_fz 3 hcl rfl ?_
    simp [Gm.out, h]
theorem ok33 : Ok Try.prog 33 [.agg g.cells] H (.ret (g.out nl g.setsV)) H := by
  refine ok_fn hm Try.func33 c33 (by simp) fun hcl => ?_
  simp -implicitDefEqProofs [i33, r33, Gm.cells]
  have hh := fun H => ok13 (H := H) (g := g)
  simp only [Gm.cells] at hh
  refine call_go (hh _) ?_
  rw [formE_R]
  have hf : ∀ L, SV.fz H.length [] L 1 g.setsV = g.setsV := fun L => fz_under (SV.under_mono (Nat.zero_le _) _ setsV_under)
  by_cases h : g.formE = 0
  · simp -implicitDefEqProofs [h]
    have hh := fun H => ok41 (H := H) (wg_of h).gd
    simp only [Gm.cells] at hh
    refine call_go (hh _) ?_
    have e : SV.slc (g.sets.map slN) g.is.length = g.setsV := rfl
    rw [e]
    simp -implicitDefEqProofs
    refine cv_fz 2 hcl rfl ?_
    simp [Gm.out, h, hf]
  · simp -implicitDefEqProofs [h]
    refine cv_fz 2 hcl rfl ?_
    simp [Gm.out, h]
set_option maxRecDepth 10000 in
theorem loop32 (hf : WF g) (hW : Wg g) {M : List AO} {N : Nat} {K : XE → Env → List AO → Prop}
    (hexit : ∀ env z, z.length = g.ns.length → (∀ j, j < g.ns.length → gi z j = gi g.wk.2.D j) → env.get 6 = .own (H.length + 1) 0 g.ns.length 1 0 → K (.exit 0) env (H ++ [gbox g, ro z])) :
    ∀ (n i : Nat) (env : Env) (z : List Int), i + n = g.ns.length → 0 < i → z.length = g.ns.length → (∀ j, j < i → gi z j = gi g.wk.2.D j) →
      env.get 5 = .slc (ints g.wk.2.P) g.wk.2.P.length → env.get 6 = .own (H.length + 1) 0 g.ns.length 1 0 → env.get 7 = i64 i → LI Try.prog N drawB l32_0 env (H ++ [gbox g, ro z]) K := by
  have hgn := hW.gd.n
  have hlen : g.wk.2.P.length = g.ns.length := wk_len.1
  intro n
  induction n with
  | zero =>
    intro i env z hi h0 hz hp h5 h6 h7
    refine li_go hm l32_0.eq_1 ?_
    have e : i = g.ns.length := by omega
    subst e
    simp -implicitDefEqProofs [h5, h6, h7, hlen]
    exact hexit _ z hz hp (by simp [h6])
  | succ n ih =>
    intro i env z hi h0 hz hp h5 h6 h7
    refine li_go hm l32_0.eq_1 ?_
    have hlt : i < g.ns.length := by omega
    have hlt' : i < g.wk.2.P.length := by omega
    have w1 : IntKind.i64.wrap ((i : Int) + 1) = ((i + 1 : Nat) : Int) := wrap_succ (by omega)
    obtain ⟨p, hp', k1, k2, k3⟩ := hf.pf i h0 hlt
    have hch := (hf.nf p hp').ch _ k3
    have ed : gi g.wk.2.D i = gi g.wk.2.D p + 1 := by simpa using hch.2.2.2
    have hd := hf.dle hW hp'
    have hd0 := hf.dge p p (Nat.le_refl _) hp'
    have hPi : g.wk.2.P[i] = p := by rw [gi_get hlt']; exact k1
    have hzp : z[p]'(by omega) = gi g.wk.2.D p := by rw [gi_get]; exact hp p k2
    have w2 : IntKind.i64.wrap (gi g.wk.2.D p + 1) = gi g.wk.2.D p + 1 := wrap_id (by omega) (by omega)
    simp -implicitDefEqProofs [h5, h6, h7, hlt, hlt', hlen, hPi, ro, hz, hp', hzp, w2]
    refine ⟨by omega, by omega, by omega, ?_⟩
    rw [w1, ints_set (by omega)]
    refine ih (i + 1) _ (z.set i (gi g.wk.2.D p + 1)) (by omega) (by omega) (by simpa using hz) (fun j hj => ?_) ?_ ?_ ?_
    · by_cases e : j = i
      · subst e; rw [gi_set_eq (by omega), ed]
      · rw [gi_set_ne e]; exact hp j (by omega)
    · simp [hlen]
    · simp
    · simp
theorem ok32 : Ok Try.prog 32 [.agg g.cells] H (.ret (g.out nl (sl g.wk.2.D))) H := by
  refine ok_fn hm Try.func32 c32 (by simp) fun hcl => ?_
  simp -implicitDefEqProofs [i32, r32, Gm.cells]
  have hh := fun H => ok13 (H := H) (g := g)
  simp only [Gm.cells] at hh
  refine call_go (hh _) ?_
  rw [formE_R]
  by_cases h : g.formE = 0
  · have hW := wg_of h
    have hgn := hW.gd.n
    have hg1 := hW.gd.n1
    have hlen : g.wk.2.P.length = g.ns.length := wk_len.1
    have hlenD : g.wk.2.D.length = g.ns.length := wk_len.2.1
    simp -implicitDefEqProofs [h]
    have hh := fun H => ok58 (H := H) hW
    simp only [Gm.cells] at hh
    refine call_go (hh _) ?_
    simp -implicitDefEqProofs [sl]
    have ez : (⟨List.replicate g.wk.2.P.length (i64 0), 3, 0, true⟩ : AO) = ro (List.replicate g.ns.length 0) := by simp [ro, ints, hlen]
    rw [ez]
    refine ⟨by omega, by omega, ?_⟩
    refine loop32 (g := g) hW.wf hW (M := []) (fun env z hz hp h6 => ?_) (g.ns.length - 1) 1 _ _ (by omega) (by omega) (by simp) (fun j hj => ?_) (by simp) (by simp [hlen]) (by simp)
    · simp -implicitDefEqProofs [h6]
      refine cv_fz 3 hcl rfl ?_
      have : z = g.wk.2.D := List.ext_getElem (by rw [hz, hlenD]) fun j h1 h2 => by
        rw [gi_get h1, gi_get h2]; exact hp j (by omega)
      subst this
      simp [Gm.out, h, sl, ro, hlenD]
    · have : j = 0 := by omega
      subst this
      rw [hW.wf.d0]
      simp [gi, List.getD_eq_getElem?_getD]
      rw [List.getElem?_replicate]; split <;> rfl
  · simp -implicitDefEqProofs [h]
    refine cv_fz 3 hcl rfl ?_
    simp [Gm.out, h]
end
end Go.Proofs.Ytiikfkacbglblaa
