/-
  Steps of the proof: contracts of functions and plain facts that the statement rests on.
-/
import Derived.Test.YtiikfkacbglblaaD19
set_option linter.all false
namespace Go.Proofs.Ytiikfkacbglblaa
open Go.Ab
structure WF (g : Gm) : Prop where
  len : g.wk.2.ok g.ns.length
  nf : ∀ i (h : i < g.ns.length), Nf g.ns g.wk.2 i g.ns[i]
  pf : ∀ i, 0 < i → i < g.ns.length → ∃ p, ∃ h : p < g.ns.length, gi g.wk.2.P i = p ∧ p < i ∧ (i : Int) ∈ g.ns[p].nx
  p0 : gi g.wk.2.P 0 = -1
  d0 : gi g.wk.2.D 0 = 0
theorem Wg.wf {g : Gm} (h : Wg g) : WF g := by
  have hok := walkS_ok (ns := g.ns) (g.ns.length + 1) (-1) 0 0 g.w0 w0_ok
  obtain ⟨hf, _⟩ := walk_facts (ns := g.ns) (g.ns.length + 1) (-1) 0 0 g.w0 g.ns.length w0_ok h.wk
  refine ⟨hok.1, fun i hi => hf.nf i _ (by omega) hi (List.getElem?_eq_getElem hi), fun i h0 hi => ?_, hf.p, hf.d⟩
  obtain ⟨p, x, k1, k2, k3, k4, k5⟩ := hf.pf i h0 hi
  have hp : p < g.ns.length := by omega
  rw [List.getElem?_eq_getElem hp] at k4
  cases k4
  exact ⟨p, hp, k1, k3, k5⟩
theorem WF.dle {g : Gm} (h : WF g) (hg : Wg g) {i : Nat} (hi : i < g.ns.length) : gi g.wk.2.D i ≤ 40 := by
  have := (maxL_le (l := g.wk.2.D) (x := 40) (by rw [h.len.2.1]; omega)).1 hg.mx i (by rw [h.len.2.1]; exact hi)
  exact this
theorem WF.dge {g : Gm} (h : WF g) : ∀ (n i : Nat), i ≤ n → i < g.ns.length → 0 ≤ gi g.wk.2.D i := by
  intro n
  induction n with
  | zero => intro i hi hl; have : i = 0 := by omega
            subst this; rw [h.d0]; omega
  | succ n ih =>
    intro i hi hl
    by_cases h0 : i = 0
    · subst h0; rw [h.d0]; omega
    · obtain ⟨p, hp, k1, k2, k3⟩ := h.pf i (by omega) hl
      have h1 := (h.nf p hp).ch _ k3
      have h2 := ih p (by omega) hp
      have h3 : gi g.wk.2.D i = gi g.wk.2.D p + 1 := by simpa using h1.2.2.2
      omega
theorem gi_get {l : List Int} {i : Nat} (h : i < l.length) : l[i] = gi l i := by simp [gi, h]
theorem wk_len {g : Gm} : g.wk.2.ok g.ns.length := (walkS_ok (ns := g.ns) (g.ns.length + 1) (-1) 0 0 g.w0 w0_ok).1
section
variable {H : List AO} {g : Gm}
def Gm.last (g : Gm) (node : Int) : Int × Int := if g.formE ≠ 0 then (0, g.formE) else if node < 0 ∨ g.ns.length ≤ node then (0, 2) else (gi g.wk.2.L node.toNat, 0)
def tup2 (p : Int × Int) : SV := .tup [i64 p.1, i64 p.2]
theorem ok22 (node : Int) : Ok Try.prog 22 [.agg g.cells, i64 node] H (.ret (tup2 (g.last node))) H := by
  refine ok_fn hm Try.func22 c22 (by simp) fun hcl => ?_
  simp -implicitDefEqProofs [i22, r22, Gm.cells]
  have hh := fun H => ok38 (H := H) (g := g)
  simp only [Gm.cells] at hh
  refine call_go (hh _) ?_
  by_cases h : g.formE = 0
  · rw [walked_ok h]
    have hW := wg_of h
    have hgn := hW.gd.n
    have w1 : IntKind.i64.wrap ((g.ns.length : Int) - 1) = (g.ns.length : Int) - 1 := wrap_id (by omega) (by omega)
    simp -implicitDefEqProofs [w1]
    refine call_go (ok45 (IsI.own0 H _ 1 0 [node] [] 3 rfl) (by simp) 0 (g.ns.length - 1)) ?_
    by_cases hn : node < 0 ∨ (g.ns.length : Int) - 1 < node
    · have e : within 0 ((g.ns.length : Int) - 1) [node] = 2 := by rw [within1, if_pos hn]
      rw [e]
      simp -implicitDefEqProofs
      refine cv_fz 2 hcl rfl ?_
      have hl : g.last node = (0, 2) := by
        unfold Gm.last
        rw [if_neg (by simpa using h), if_pos (by omega)]
      simp [hl, tup2]
    · have e : within 0 ((g.ns.length : Int) - 1) [node] = 0 := by rw [within1, if_neg hn]
      rw [e]
      have hlen : g.wk.2.L.length = g.ns.length := wk_len.2.2
      have hk : node.toNat < g.wk.2.L.length := by omega
      simp -implicitDefEqProofs [Gm.wp, sl, hk]
      refine ⟨by omega, by omega, ?_⟩
      refine cv_fz 2 hcl rfl ?_
      have hl : g.last node = (gi g.wk.2.L node.toNat, 0) := by
        unfold Gm.last
        rw [if_neg (by simpa using h), if_neg (by omega)]
      simp [hl, tup2, gi_get]
  · obtain ⟨p, e, _⟩ := walked_err h
    rw [e]
    simp -implicitDefEqProofs [h]
    refine cv_fz 2 hcl rfl ?_
    simp [Gm.last, tup2, h]
set_option maxRecDepth 10000 in
theorem loop29 (hf : WF g) (hg : Gd g) {N : Nat} {K : XE → Env → List AO → Prop} {v : Int} (hexit : ∀ env, env.get 1 = i64 v → K (.exit 0) env (H ++ [gbox g])) :
    ∀ (n i : Nat) (env : Env), g.ns.length ≤ i + n → i < g.ns.length → gi g.wk.2.L i = v → env.get 1 = i64 i → env.get 2 = .ptr (.own H.length 0 0 0 0) 0 → LI Try.prog N drawB l29_0 env (H ++ [gbox g]) K := by
  intro n
  induction n with
  | zero => intro i env h1 h2; omega
  | succ n ih =>
    intro i env hi hlt hv e1 e2
    refine li_go hm l29_0.eq_1 ?_
    have hnf := hf.nf i hlt
    by_cases hk : g.ns[i].nx = []
    · have hla := hnf.la
      rw [hk] at hla
      simp only [List.getLast?_nil] at hla
      simp -implicitDefEqProofs [e1, e2, gbox, hlt, nds_g3 hlt, nds_len, hk]
      refine ⟨by omega, ?_⟩
      exact hexit _ (by simp; rw [← hv, hla])
    · have hl0 : 0 < g.ns[i].nx.length := List.length_pos_iff.2 hk
      have hch := hnf.ch _ (List.getElem_mem (show g.ns[i].nx.length - 1 < g.ns[i].nx.length by omega))
      have w1 : IntKind.i64.wrap ((g.ns[i].nx.length : Int) - 1) = ((g.ns[i].nx.length - 1 : Nat) : Int) := by
        have : g.ns[i].nx.length ≤ 60 := nx_of (hg.e _ (List.getElem_mem hlt))
        rw [wrap_id (by omega) (by omega)]; omega
      have hla := hnf.la
      rw [List.getLast?_eq_getElem?, List.getElem?_eq_getElem (show g.ns[i].nx.length - 1 < g.ns[i].nx.length by omega)] at hla
      simp only at hla
      simp -implicitDefEqProofs [e1, e2, gbox, hlt, nds_g3 hlt, nds_len, hl0, w1, show g.ns[i].nx.length - 1 < g.ns[i].nx.length by omega]
      refine ⟨by omega, by omega, ?_⟩
      refine ih (g.ns[i].nx[g.ns[i].nx.length - 1]).toNat _ (by omega) (by omega) (by rw [← hla]; exact hv) ?_ (by simp)
      simp
      exact congrArg i64 (by omega)
theorem formE_R : g.formR = g.formE := form_eq.symm
theorem ok29 (node : Int) : Ok Try.prog 29 [.agg g.cells, i64 node] H (.ret (tup2 (g.last node))) H := by
  refine ok_fn hm Try.func29 c29 (by simp) fun hcl => ?_
  simp -implicitDefEqProofs [i29, r29, Gm.cells]
  have hh := fun H => ok13 (H := H) (g := g)
  simp only [Gm.cells] at hh
  refine call_go (hh _) ?_
  rw [formE_R]
  by_cases h : g.formE = 0
  · have hW := wg_of h
    have hgn := hW.gd.n
    simp -implicitDefEqProofs [h]
    split
    · rename_i hn
      refine cv_fz 2 hcl rfl ?_
      have hl : g.last node = (0, 2) := by
        unfold Gm.last
        rw [if_neg (by simpa using h), if_pos hn]
      simp [hl, tup2]
    · rename_i hn
      have hl : g.last node = (gi g.wk.2.L node.toNat, 0) := by
        unfold Gm.last
        rw [if_neg (by simpa using h), if_neg hn]
      refine loop29 (g := g) hW.wf hW.gd (v := gi g.wk.2.L node.toNat) (fun env h1 => ?_) g.ns.length node.toNat _ (by omega) (by omega) rfl ?_ (by simp)
      · simp -implicitDefEqProofs [h1]
        refine cv_fz 2 hcl rfl ?_
        simp [hl, tup2]
      · simp
        exact congrArg i64 (by omega)
  · simp -implicitDefEqProofs [h]
    refine cv_fz 2 hcl rfl ?_
    simp [Gm.last, tup2, h]
def PInv (g : Gm) (i : Nat) (z : List Int) : Prop := z.length = g.ns.length ∧ gi z 0 = -1 ∧ ∀ j, 0 < j → j < g.ns.length → gi g.wk.2.P j < i → gi z j = gi g.wk.2.P j
set_option maxRecDepth 10000 in
theorem loop58_1 (hf : WF g) (hg : Gd g) {i : Nat} (hi : i < g.ns.length) {N : Nat} {K : XE → Env → List AO → Prop}
    (hexit : ∀ env z, PInv g (i + 1) z → env.get 1 = .ptr (.own H.length 0 0 0 0) 0 → env.get 3 = .own (H.length + 1) 0 g.ns.length 1 0 → env.get 4 = i64 i → K (.exit 2) env (H ++ [gbox g, ro z])) :
    ∀ (n c : Nat) (env : Env) (z : List Int), c + n = g.ns[i].nx.length → PInv g i z → (∀ k (h : k < g.ns[i].nx.length), k < c → gi z (g.ns[i].nx[k]).toNat = i) →
      env.get 1 = .ptr (.own H.length 0 0 0 0) 0 → env.get 3 = .own (H.length + 1) 0 g.ns.length 1 0 → env.get 4 = i64 i → env.get 5 = i64 c → LI Try.prog N drawB l58_1 env (H ++ [gbox g, ro z]) K := by
  have hgn := hg.n
  intro n
  induction n with
  | zero =>
    intro c env z hc hz hp h1 h3 h4 h5
    refine li_go hm l58_1.eq_1 ?_
    have e : c = g.ns[i].nx.length := by omega
    subst e
    simp -implicitDefEqProofs [h1, h3, h4, h5, gbox, hi, nds_g3 hi, nds_len]
    refine ⟨by omega, ?_⟩
    refine hexit _ z ⟨hz.1, hz.2.1, fun j h0 hj hlt => ?_⟩ (by simp) (by simp [h3]) (by simp)
    by_cases he : gi g.wk.2.P j = i
    · obtain ⟨p, hp', k1, k2, k3⟩ := hf.pf j h0 hj
      have : p = i := by omega
      subst this
      obtain ⟨k, hk, ek⟩ := List.getElem_of_mem k3
      have := hp k hk hk
      rw [ek] at this
      rw [he]; simpa using this
    · exact hz.2.2 j h0 hj (by omega)
  | succ n ih =>
    intro c env z hc hz hp h1 h3 h4 h5
    refine li_go hm l58_1.eq_1 ?_
    have hlt : c < g.ns[i].nx.length := by omega
    have hch := (hf.nf i hi).ch _ (List.getElem_mem hlt)
    have hnx : g.ns[i].nx.length ≤ 60 := nx_of (hg.e _ (List.getElem_mem hi))
    have w1 : IntKind.i64.wrap ((c : Int) + 1) = ((c + 1 : Nat) : Int) := wrap_succ (by omega)
    have hzl := hz.1
    simp -implicitDefEqProofs [h1, h3, h4, h5, gbox, hi, nds_g3 hi, nds_len, hlt, ro]
    refine ⟨by omega, by omega, by omega, by omega, ?_⟩
    rw [w1, ints_set (by omega)]
    have hset : ∀ j, j ≠ g.ns[i].nx[c].toNat → gi (z.set g.ns[i].nx[c].toNat i) j = gi z j := fun j hj => gi_set_ne hj
    have hset0 : gi (z.set g.ns[i].nx[c].toNat i) g.ns[i].nx[c].toNat = i := gi_set_eq (by omega)
    refine ih (c + 1) _ (z.set g.ns[i].nx[c].toNat i) (by omega) ⟨by simpa using hzl, ?_, fun j h0 hj hPj => ?_⟩ (fun k hk hkc => ?_) ?_ ?_ ?_ ?_
    · rw [hset 0 (by omega)]; exact hz.2.1
    · rw [hset j (fun e => by subst e; rw [hch.2.2.1] at hPj; omega)]
      exact hz.2.2 j h0 hj hPj
    · by_cases e : (g.ns[i].nx[k]).toNat = (g.ns[i].nx[c]).toNat
      · rw [e]; exact hset0
      · rw [hset _ e]
        by_cases e' : k = c
        · subst e'; exact (e rfl).elim
        · exact hp k hk (by omega)
    · simp
    · simp
    · simp
    · simp
set_option maxRecDepth 10000 in
theorem loop58_0 (hf : WF g) (hg : Gd g) {N : Nat} {K : XE → Env → List AO → Prop}
    (hexit : ∀ env z, PInv g g.ns.length z → env.get 3 = .own (H.length + 1) 0 g.ns.length 1 0 → K (.exit 0) env (H ++ [gbox g, ro z])) :
    ∀ (n i : Nat) (env : Env) (z : List Int), i + n = g.ns.length → PInv g i z →
      env.get 1 = .ptr (.own H.length 0 0 0 0) 0 → env.get 3 = .own (H.length + 1) 0 g.ns.length 1 0 → env.get 4 = i64 i → LI Try.prog N drawB l58_0 env (H ++ [gbox g, ro z]) K := by
  have hgn := hg.n
  intro n
  induction n with
  | zero =>
    intro i env z hi hz h1 h3 h4
    refine li_go hm l58_0.eq_1 ?_
    have e : i = g.ns.length := by omega
    subst e
    simp -implicitDefEqProofs [h1, h3, h4, gbox]
    exact hexit _ z hz (by simp [h3])
  | succ n ih =>
    intro i env z hi hz h1 h3 h4
    refine li_go hm l58_0.eq_1 ?_
    have hlt : i < g.ns.length := by omega
    have w1 : IntKind.i64.wrap ((i : Int) + 1) = ((i + 1 : Nat) : Int) := wrap_succ (by omega)
    simp -implicitDefEqProofs [h1, h3, h4, gbox, hlt]
    refine loop58_1 (g := g) hf hg hlt (fun env z hz h1 h3 h4 => ?_) g.ns[i].nx.length 0 _ z (by omega) hz (by omega) (by simp) (by simp) (by simp) (by simp)
    simp -implicitDefEqProofs [h4]
    rw [w1]
    exact ih (i + 1) _ z (by omega) hz (by simp [h1]) (by simp [h3]) (by simp)
set_option maxRecDepth 10000 in
theorem ok58 (hW : Wg g) : Ok Try.prog 58 [.agg g.cells] H (.ret (sl g.wk.2.P)) H := by
  have hf := hW.wf
  have hgn := hW.gd.n
  have hg1 := hW.gd.n1
  have hlen : g.wk.2.P.length = g.ns.length := wk_len.1
  refine ok_fn hm Try.func58 c58 (by simp) fun hcl => ?_
  simp -implicitDefEqProofs [i58, r58, Gm.cells]
  have e0 : i64 (-1) :: List.replicate (g.ns.length - 1) (i64 0) = ints ((List.replicate g.ns.length 0).set 0 (-1)) := by
    obtain ⟨n, hn⟩ : ∃ n, g.ns.length = n + 1 := ⟨g.ns.length - 1, by omega⟩
    rw [hn]; simp [List.replicate_succ, ints]
  refine ⟨by omega, by omega, by omega, by omega, ?_⟩
  rw [e0]
  refine loop58_0 (g := g) hf hW.gd (fun env z hz h3 => ?_) g.ns.length 0 _ _ (by omega) ⟨by simp, gi_set_eq (by simp; omega), fun j h0 hj hP => ?_⟩ (by simp) (by simp) (by simp)
  · simp -implicitDefEqProofs [h3]
    refine cv_fz 2 hcl rfl ?_
    have : z = g.wk.2.P := by
      refine List.ext_getElem (by rw [hz.1, hlen]) fun j h1 h2 => ?_
      rw [gi_get h1, gi_get h2]
      by_cases h0 : j = 0
      · subst h0; rw [hz.2.1, hf.p0]
      · have hj : j < g.ns.length := by omega
        obtain ⟨p, hp, k1, k2, k3⟩ := hf.pf j (by omega) hj
        exact hz.2.2 j (by omega) hj (by omega)
    subst this
    simp [ro, sl, hlen]
  · obtain ⟨p, hp, k1, k2, k3⟩ := hf.pf j h0 hj
    omega
end
end Go.Proofs.Ytiikfkacbglblaa
