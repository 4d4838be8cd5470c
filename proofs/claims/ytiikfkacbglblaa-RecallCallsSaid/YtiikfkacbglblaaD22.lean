/-
  Steps of the proof: contracts of functions and plain facts that the statement rests on.
-/
import Derived.Test.YtiikfkacbglblaaD21
set_option linter.all false
namespace Go.Proofs.Ytiikfkacbglblaa
open Go.Ab
section
variable {σ : Type}
/-- What going up from a node does: nb tells whether to go on, ns what is left. -/
def abv (g : Gm) (pl : Int) (nb : σ → Nat → Int → Bool) (nx : σ → Nat → Int → σ) : Nat → Nat → σ → σ
  | 0, _, s => s
  | f + 1, node, s =>
    if gi g.wk.2.P node < 0 then s else
      match g.ns[(gi g.wk.2.P node).toNat]? with
      | none => s
      | some x =>
        if x.k = 2 ∧ x.p = pl then
          (if nb s (gi g.wk.2.P node).toNat (fstAt node x.nx) = true then abv g pl nb nx f (gi g.wk.2.P node).toNat (nx s (gi g.wk.2.P node).toNat (fstAt node x.nx)) else nx s (gi g.wk.2.P node).toNat (fstAt node x.nx))
        else abv g pl nb nx f (gi g.wk.2.P node).toNat s
variable {g : Gm} {Inv : Nat → List AO → σ → Prop} {vf : SV} {nb : σ → Nat → Int → Bool} {nx : σ → Nat → Int → σ} {pl : Int}
set_option maxRecDepth 10000 in
theorem loop67 (hW : Wg g) (hv : vf.vd = true ∧ vf.ug = vf) (hclo : ∀ m G s (k : Nat) (a : Int), k < m → m < g.ns.length → Inv m G s → OkCP Try.prog vf [i64 k, i64 a] G fun out G' => out = .ret (bl (nb s k a)) ∧ Inv k G' (nx s k a))
    (hbox : ∀ m G s o, Inv m G s → Inv m (G ++ [o]) s) (hdec : ∀ m k G s, k < m → Inv m G s → Inv k G s) {N : Nat} {K : XE → Env → List AO → Prop} {s0 : σ}
    (hret : ∀ env m G, Inv m G s0 → K .ret env G) (hexit : ∀ env m G, Inv m G s0 → K (.exit 0) env G) :
    ∀ (f node : Nat) (env : Env) (G : List AO) (s : σ), node < f → node < g.ns.length → Inv node G s → abv g pl nb nx f node s = s0 →
      env.get 0 = g.wp → env.get 1 = i64 node → env.get 2 = i64 pl → env.get 3 = vf → env.get 8 = i64 (gi g.wk.2.P node) → LI Try.prog N drawB l67_0 env G K := by
  have hf := hW.wf
  have hgn := hW.gd.n
  have hlen : g.wk.2.P.length = g.ns.length := wk_len.1
  intro f
  induction f with
  | zero => intro node env G s h; omega
  | succ f ih =>
    intro node env G s hnf hn hI hs e0 e1 e2 e3 e8
    refine li_go hm l67_0.eq_1 ?_
    unfold abv at hs
    by_cases hneg : gi g.wk.2.P node < 0
    · rw [if_pos hneg] at hs
      subst hs
      simp -implicitDefEqProofs [e8, show ¬ 0 ≤ gi g.wk.2.P node by omega]
      exact hexit _ _ _ hI
    · rw [if_neg hneg] at hs
      have hn0 : 0 < node := by
        rcases Nat.eq_zero_or_pos node with h | h
        · subst h; rw [hf.p0] at hneg; omega
        · exact h
      obtain ⟨p, hp, k1, k2, k3⟩ := hf.pf node hn0 hn
      have k1' : (gi g.wk.2.P node).toNat = p := by omega
      rw [k1', List.getElem?_eq_getElem hp] at hs
      simp only at hs
      rw [k1] at e8
      have hnx : g.ns[p].nx.length ≤ 60 := nx_of (hW.gd.e _ (List.getElem_mem hp))
      by_cases hm' : g.ns[p].k = 2 ∧ g.ns[p].p = pl
      · rw [if_pos hm'] at hs
        simp -implicitDefEqProofs [e0, e1, e2, e3, e8, Gm.wp, hp, nds_at hp, nds_min hp, nds_ge hp, sl, hm'.1, hm'.2, hv.1, hv.2]
        refine callq_st (fun _ => ok82 (IsI.slc _ _) (by omega) (node : Int)) ?_
        simp -implicitDefEqProofs
        refine call_gd (hclo node _ s p (fstAt node g.ns[p].nx) k2 hn (hbox _ _ _ _ hI)) (fun out G' hP => ?_)
        obtain ⟨rfl, hI'⟩ := hP
        cases hb : nb s p (fstAt node g.ns[p].nx) with
        | true =>
          rw [hb, if_pos rfl] at hs
          simp -implicitDefEqProofs [e0, e8, Gm.wp, hp, hlen, sl]
          refine ⟨by omega, ?_⟩
          rw [gi_get (show p < g.wk.2.P.length by omega)]
          refine ih p _ _ _ (by omega) hp hI' hs ?_ ?_ ?_ ?_ ?_
          · simp [Gm.wp, sl, hlen]
          · simp
          · simp [e2]
          · simp [e3]
          · simp
        | false =>
          rw [hb, if_neg (by simp)] at hs
          subst hs
          simp -implicitDefEqProofs
          exact hret _ _ _ hI'
      · rw [if_neg hm'] at hs
        by_cases hk2 : g.ns[p].k = 2
        · have hpl : ¬ g.ns[p].p = pl := fun h => hm' ⟨hk2, h⟩
          simp -implicitDefEqProofs [e0, e1, e2, e3, e8, Gm.wp, hp, nds_at hp, nds_min hp, nds_ge hp, sl, hk2, hpl, hv.1, hv.2]
          refine callq_off _ _ _ _ ?_
          simp -implicitDefEqProofs [e0, e8, Gm.wp, hp, hlen, sl]
          refine ⟨by omega, ?_⟩
          rw [gi_get (show p < g.wk.2.P.length by omega)]
          refine ih p _ _ _ (by omega) hp (hdec _ _ _ _ k2 (hbox _ _ _ _ hI)) hs ?_ ?_ ?_ ?_ ?_
          · simp [Gm.wp, sl, hlen]
          · simp
          · simp [e2]
          · simp [e3]
          · simp
        · simp -implicitDefEqProofs [e0, e1, e2, e3, e8, Gm.wp, hp, nds_at hp, nds_min hp, nds_ge hp, sl, hk2, hv.1, hv.2]
          refine callq_off _ _ _ _ ?_
          simp -implicitDefEqProofs [e0, e8, Gm.wp, hp, hlen, sl]
          refine ⟨by omega, ?_⟩
          rw [gi_get (show p < g.wk.2.P.length by omega)]
          refine ih p _ _ _ (by omega) hp (hdec _ _ _ _ k2 (hbox _ _ _ _ hI)) hs ?_ ?_ ?_ ?_ ?_
          · simp [Gm.wp, sl, hlen]
          · simp
          · simp [e2]
          · simp [e3]
          · simp
theorem ok67 (hW : Wg g) (hv : vf.vd = true ∧ vf.ug = vf) (hclo : ∀ m G s (k : Nat) (a : Int), k < m → m < g.ns.length → Inv m G s → OkCP Try.prog vf [i64 k, i64 a] G fun out G' => out = .ret (bl (nb s k a)) ∧ Inv k G' (nx s k a))
    (hbox : ∀ m G s o, Inv m G s → Inv m (G ++ [o]) s) (hdec : ∀ m k G s, k < m → Inv m G s → Inv k G s) {G : List AO} {s : σ} {node : Nat} (hn : node < g.ns.length) (hI : Inv node G s) :
    OkP Try.prog 67 [g.wp, i64 node, i64 pl, vf] G fun out G' => out = .ret (.tup []) ∧ ∃ m, Inv m G' (abv g pl nb nx g.ns.length node s) := by
  have hlen : g.wk.2.P.length = g.ns.length := wk_len.1
  refine okP_fn hm Try.func67 c67 (by simp) fun hcl => ?_
  simp -implicitDefEqProofs [i67, r67, Gm.wp, sl, hn, hlen]
  refine ⟨by omega, ?_⟩
  rw [gi_get (show node < g.wk.2.P.length by omega)]
  refine loop67 (g := g) hW hv hclo hbox hdec (s0 := abv g pl nb nx g.ns.length node s) (pl := pl) (fun env m G' hI' => ?_) (fun env m G' hI' => ?_) g.ns.length node _ _ s hn hn hI rfl (by simp [Gm.wp, sl, hlen]) (by simp) (by simp) (by simp) (by simp)
  · simp -implicitDefEqProofs
    exact ⟨_, _, ⟨rfl, m, hI'⟩, cv_id⟩
  · simp -implicitDefEqProofs
    exact ⟨_, _, ⟨rfl, m, hI'⟩, cv_id⟩
end
end Go.Proofs.Ytiikfkacbglblaa
