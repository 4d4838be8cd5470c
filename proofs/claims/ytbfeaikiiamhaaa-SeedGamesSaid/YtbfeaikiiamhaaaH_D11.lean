/-
  Steps of the proof: contracts of functions and plain facts that the statement rests on.
-/
import Derived.Test.YtbfeaikiiamhaaaH_D10
set_option linter.all false
namespace Go.Proofs.Ytbfeaikiiamhaaa.Rc
open Go.Ab
def Gm.wr (g : Gm) : Option Nat × Int := walkR g.ns (g.ns.length + 1) 0 0 0
def SrtS (A : List (List Int)) : Prop := ∀ k, k < A.length - 1 → ¬ (A.getD (k + 1) []).getD 0 0 < (A.getD k []).getD 0 0
instance (A : List (List Int)) : Decidable (SrtS A) := by unfold SrtS; infer_instance
def Gm.setsR (g : Gm) : Int := if ∃ x ∈ g.ns, x.tyBad g then 10 else if [] ∈ g.sets then 18 else if SrtS g.sets then 0 else 9
def Gm.formR (g : Gm) : Int := if g.rng then 2 else if nodesE g g.ns ≠ 0 then nodesE g g.ns else if g.wr.1 ≠ some g.ns.length then 9 else if 40 < g.wr.2 then 5 else g.setsR
theorem infs_g1 {l : List (Int × Int)} {k : Nat} (h : k < l.length) : (infs l)[k * 2 + 1]? = some (i64 l[k].2) := by
  rw [← List.getElem?_drop, infs_at h]; rfl
theorem bad_iff {g : Gm} {x : Nd} (hk : x.k = 2) (hb : x.i.toNat < g.is.length) : (¬g.is[x.i.toNat].fst = x.p ∨ ¬g.is[x.i.toNat].snd = (x.nx.length : Int)) ↔ x.tyBad g := by
  unfold Nd.tyBad
  rw [List.getElem?_eq_getElem hb]
  simp only [hk, true_and, ne_eq, Option.some.injEq]
  rw [← Prod.eta g.is[x.i.toNat], Prod.mk.injEq]
  constructor
  · rintro (h | h) ⟨h1, h2⟩
    · exact h h1
    · exact h h2
  · intro h
    by_cases h1 : g.is[x.i.toNat].fst = x.p
    · exact .inr fun h2 => h ⟨h1, h2⟩
    · exact .inl h1
section
variable {H : List AO} {g : Gm}
set_option maxRecDepth 10000 in
theorem loop13_0 (g1 : 1 ≤ g.pl) (g4 : g.pl ≤ 4) (g5 : g.is.length ≤ 200) (hn : g.ns.length ≤ 2000) {N : Nat} {K : XE → Env → List AO → Prop}
    (hret : nodesE g g.ns ≠ 0 → ∀ env, env.get 2 = i64 (nodesE g g.ns) → K .ret env (H ++ [gbox g]))
    (hexit : (∀ x ∈ g.ns, x.err g = 0) → nodesE g g.ns = 0 → ∀ env, env.get 1 = .ptr (.own H.length 0 0 0 0) 0 → K (.exit 0) env (H ++ [gbox g])) :
    ∀ (n i : Nat) (env : Env), i + n = g.ns.length → (∀ k (h : k < g.ns.length), k < i → g.ns[k].err g = 0) → nodesE g (g.ns.drop i) = nodesE g g.ns →
      env.get 1 = .ptr (.own H.length 0 0 0 0) 0 → env.get 3 = i64 i →
      LI Try.prog N drawB l35_0 env (H ++ [gbox g]) K := by
  intro n
  induction n with
  | zero =>
    intro i env hi hp hE e1 e3
    refine li_go hm l35_0.eq_1 ?_
    have e : i = g.ns.length := by omega
    subst e
    simp -implicitDefEqProofs [e1, e3, gbox]
    rw [List.drop_length] at hE
    refine hexit ?_ hE.symm _ (by simp [e1])
    intro x hx
    obtain ⟨k, hk, rfl⟩ := List.getElem_of_mem hx
    exact hp k hk hk
  | succ n ih =>
    intro i env hi hp hE e1 e3
    refine li_go hm l35_0.eq_1 ?_
    have hlt : i < g.ns.length := by omega
    have w1 : IntKind.i64.wrap ((i : Int) + 1) = ((i + 1 : Nat) : Int) := wrap_succ (by omega)
    rw [List.drop_eq_getElem_cons hlt, nodesE] at hE
    simp -implicitDefEqProofs [e1, e3, gbox, hlt, nds_at hlt, nds_min hlt, nds_ge hlt, sl]
    have hh := fun H => ok51 (H := H) (x := g.ns[i]) g1 g4 g5
    simp only [Gm.cells, Nd.cells, sl] at hh
    refine callq_go (fun _ => hh _) ?_
    by_cases hc : g.ns[i].err g = 0
    · rw [if_pos hc] at hE
      simp -implicitDefEqProofs [hc, e3]
      rw [w1]
      refine ih (i + 1) _ (by omega) ?_ hE ?_ ?_
      rotate_left
      · simp [e1]
      · simp
      intro k hk hki
      by_cases e : k = i
      · subst e; exact hc
      · exact hp k hk (by omega)
    · rw [if_neg hc] at hE
      simp -implicitDefEqProofs [hc]
      refine hret ?_ _ (by simp [hE])
      rw [← hE]; exact hc
set_option maxRecDepth 10000 in
theorem loop13_1 (hg : Gd g) {N : Nat} {K : XE → Env → List AO → Prop} {r : AO}
    (hret : (∃ x ∈ g.ns, x.tyBad g) → ∀ env M, env.get 2 = i64 10 → K .ret env (H ++ gbox g :: r :: M))
    (hexit : (¬ ∃ x ∈ g.ns, x.tyBad g) → ∀ env M, env.get 1 = .ptr (.own H.length 0 0 0 0) 0 → K (.exit 2) env (H ++ gbox g :: r :: M)) :
    ∀ (n i : Nat) (env : Env) (M : List AO), i + n = g.ns.length → (∀ k (h : k < g.ns.length), k < i → ¬ g.ns[k].tyBad g) → env.get 1 = .ptr (.own H.length 0 0 0 0) 0 → env.get 6 = i64 i →
      LI Try.prog N drawB l35_1 env (H ++ gbox g :: r :: M) K := by
  have hn := hg.n
  intro n
  induction n with
  | zero =>
    intro i env M hi hp h1 h6
    refine li_go hm l35_1.eq_1 ?_
    have e : i = g.ns.length := by omega
    subst e
    simp -implicitDefEqProofs [h1, h6, gbox]
    refine hexit ?_ _ _ (by simp [h1])
    rintro ⟨x, hx, hb⟩
    obtain ⟨k, hk, rfl⟩ := List.getElem_of_mem hx
    exact hp k hk hk hb
  | succ n ih =>
    intro i env M hi hp h1 h6
    refine li_go hm l35_1.eq_1 ?_
    have hlt : i < g.ns.length := by omega
    have hx : g.ns[i] ∈ g.ns := List.getElem_mem hlt
    have w1 : IntKind.i64.wrap ((i : Int) + 1) = ((i + 1 : Nat) : Int) := wrap_succ (by omega)
    by_cases hk : g.ns[i].k = 2
    · have hb := hg.inf hx hk
      have hb' : g.ns[i].i.toNat < g.is.length := by omega
      simp -implicitDefEqProofs [h1, h6, gbox, hlt, nds_at hlt, nds_min hlt, nds_ge hlt, infs_at hb', infs_g1 hb', infs_len, hk, sl]
      refine ⟨by omega, fun e => ⟨e, by omega, by omega⟩, fun e => ⟨e, by omega⟩, ?_⟩
      split
      · rename_i hc
        exact hret ⟨_, hx, (bad_iff hk hb').1 hc⟩ _ _ (by simp)
      · rename_i hc
        rw [w1]
        refine ih (i + 1) _ _ (by omega) ?_ ?_ ?_
        rotate_left
        · simp
        · simp
        intro k hk' hki
        by_cases e : k = i
        · subst e; exact fun hb => hc ((bad_iff hk hb').2 hb)
        · exact hp k hk' (by omega)
    · simp -implicitDefEqProofs [h1, h6, gbox, hlt, nds_at hlt, nds_min hlt, nds_ge hlt, hk, sl]
      rw [w1]
      refine ih (i + 1) _ _ (by omega) ?_ ?_ ?_
      rotate_left
      · simp
      · simp
      intro k hk' hki
      by_cases e : k = i
      · subst e; exact fun hb => hk hb.1
      · exact hp k hk' (by omega)
theorem slN_nil : slN [] = nl := rfl
theorem slN_ne {l : List Int} (h : l ≠ []) : slN l = .slc (ints l) l.length := by unfold slN; rw [if_neg h]; rfl
theorem slN_at {A : List (List Int)} {k : Nat} (h : k < A.length) : (A.map slN).drop k = slN A[k] :: (A.drop (k + 1)).map slN := by
  rw [List.drop_eq_getElem_cons (by simpa using h)]; simp
theorem slN_g {A : List (List Int)} {k : Nat} (h : k < A.length) : (A.map slN)[k]? = some (slN A[k]) := by simp [h]
set_option maxRecDepth 10000 in
theorem loop13_2 {A : List (List Int)} (hA : A.length ≤ 200) {N : Nat} {K : XE → Env → List AO → Prop}
    (hret : [] ∈ A → ∀ env, env.get 2 = i64 18 → K .ret env H)
    (hexit : (∀ k (h : k < A.length), A[k] ≠ []) → ∀ env, env.get 8 = .slc (A.map slN) A.length → K (.exit 4) env H) :
    ∀ (n i : Nat) (env : Env), i + n = A.length → (∀ k (h : k < A.length), k < i → A[k] ≠ []) → env.get 8 = .slc (A.map slN) A.length → env.get 9 = i64 i →
      LI Try.prog N drawB l35_2 env H K := by
  intro n
  induction n with
  | zero =>
    intro i env hi hp h8 h9
    refine li_go hm l35_2.eq_1 ?_
    have e : i = A.length := by omega
    subst e
    simp -implicitDefEqProofs [h8, h9]
    exact hexit (fun k h => hp k h h) _ (by simp [h8])
  | succ n ih =>
    intro i env hi hp h8 h9
    refine li_go hm l35_2.eq_1 ?_
    have hlt : i < A.length := by omega
    have w1 : IntKind.i64.wrap ((i : Int) + 1) = ((i + 1 : Nat) : Int) := wrap_succ (by omega)
    by_cases hk : A[i] = []
    · simp -implicitDefEqProofs [h8, h9, hlt, slN_at hlt, hk, slN_nil, show (SV.val (Value.slice none 0 0)).isSl = true by rfl, show (SV.val (Value.slice none 0 0)).slen = 0 by rfl]
      exact hret (by rw [← hk]; exact List.getElem_mem hlt) _ (by simp)
    · simp -implicitDefEqProofs [h8, h9, hlt, slN_at hlt, slN_ne hk, hk]
      rw [w1]
      refine ih (i + 1) _ (by omega) ?_ ?_ ?_
      rotate_left
      · simp
      · simp
      intro k hk' hki
      by_cases e : k = i
      · subst e; exact hk
      · exact hp k hk' (by omega)
theorem srtS_iff {A : List (List Int)} : SrtS A ↔ ∀ k (h : k + 1 < A.length), ¬ (A[k + 1]).getD 0 0 < (A[k]).getD 0 0 := by
  constructor
  · intro h k hk
    have := h k (by omega)
    rwa [List.getD_eq_getElem?_getD (l := A), List.getD_eq_getElem?_getD (l := A), List.getElem?_eq_getElem hk, List.getElem?_eq_getElem (show k < A.length by omega), Option.getD_some, Option.getD_some] at this
  · intro h k hk
    rw [List.getD_eq_getElem?_getD (l := A), List.getD_eq_getElem?_getD (l := A), List.getElem?_eq_getElem (show k + 1 < A.length by omega), List.getElem?_eq_getElem (show k < A.length by omega), Option.getD_some, Option.getD_some]
    exact h k (by omega)
theorem ints_h {l : List Int} (h : l ≠ []) : (ints l).head? = some (i64 (l.getD 0 0)) := by
  cases l with
  | nil => exact (h rfl).elim
  | cons x r => rfl
set_option maxRecDepth 10000 in
theorem loop13_3 {A : List (List Int)} (hA : A.length ≤ 200) (hne : ∀ k (h : k < A.length), A[k] ≠ []) {N : Nat} {K : XE → Env → List AO → Prop}
    (hret : ¬ SrtS A → ∀ env, env.get 2 = i64 9 → K .ret env H)
    (hexit : SrtS A → ∀ env, K (.exit 6) env H) :
    ∀ (n i : Nat) (env : Env), i + n = A.length → (∀ k (h : k + 1 < A.length), k < i → ¬ (A[k + 1]).getD 0 0 < (A[k]).getD 0 0) → env.get 8 = .slc (A.map slN) A.length → env.get 10 = i64 ((i : Int) + 1) →
      LI Try.prog N drawB l35_3 env H K := by
  intro n
  induction n with
  | zero =>
    intro i env hi hp h8 h10
    refine li_go hm l35_3.eq_1 ?_
    have e : i = A.length := by omega
    subst e
    simp -implicitDefEqProofs [h8, h10, show ¬ ((A.length : Int) + 1 < A.length) by omega]
    exact hexit (srtS_iff.2 fun k h => hp k h (by omega)) _
  | succ n ih =>
    intro i env hi hp h8 h10
    refine li_go hm l35_3.eq_1 ?_
    have hlt : i < A.length := by omega
    have w1 : IntKind.i64.wrap ((i : Int) + 1 + 1) = ((i + 1 : Nat) : Int) + 1 := by rw [wrap_id (by omega) (by omega)]; omega
    have w2 : IntKind.i64.wrap (i : Int) = i := wrap_nat (by omega)
    by_cases he : i + 1 = A.length
    · simp -implicitDefEqProofs [h8, h10, show ¬ ((i : Int) + 1 < A.length) by omega]
      exact hexit (srtS_iff.2 fun k h => hp k h (by omega)) _
    · have hlt1 : i + 1 < A.length := by omega
      have m1 := hne _ hlt1
      have m0 := hne _ hlt
      simp -implicitDefEqProofs [h8, h10, hlt, hlt1, show ((i : Int) + 1 < A.length) by omega, slN_at hlt, slN_at hlt1, slN_g hlt1, slN_g hlt, slN_ne m1, slN_ne m0, w2, ints_h m1, ints_h m0]
      have l1 : 0 < A[i + 1].length := List.length_pos_iff.2 m1
      have l0 : 0 < A[i].length := List.length_pos_iff.2 m0
      refine ⟨by omega, l1, l1, l0, l0, ?_⟩
      have ec : ((A[i + 1])[0]?.getD 0 < (A[i])[0]?.getD 0) = ((A[i + 1]).getD 0 0 < (A[i]).getD 0 0) := by rw [List.getD_eq_getElem?_getD, List.getD_eq_getElem?_getD]
      split
      · rename_i hc
        exact hret (fun h => srtS_iff.1 h i hlt1 (by simpa [List.getD_eq_getElem?_getD] using hc)) _ (by simp)
      · rename_i hc
        rw [w1]
        refine ih (i + 1) _ (by omega) ?_ ?_ ?_
        rotate_left
        · simp
        · simp
        intro k hk' hki
        by_cases e : k = i
        · subst e; simpa [List.getD_eq_getElem?_getD] using hc
        · exact hp k hk' (by omega)
set_option maxRecDepth 10000 in
theorem ok35 : Ok Try.prog 35 [.agg g.cells] H (.ret (i64 g.formR)) H := by
  refine ok_fn hm Try.func35 c35 (by simp) fun hcl => ?_
  simp -implicitDefEqProofs [i35, r35, Gm.cells]
  have hR : g.rng = (((((g.pl < 1 ∨ 4 < g.pl) ∨ (g.ns.length : Int) < 1) ∨ 2000 < (g.ns.length : Int)) ∨ 200 < (g.is.length : Int))) := rfl
  split
  · rename_i hc
    refine cv_fz 2 hcl rfl ?_
    simp [Gm.formR, hR, hc]
  · rename_i hc
    have g1 : 1 ≤ g.pl := by omega
    have g4 : g.pl ≤ 4 := by omega
    have gi : g.is.length ≤ 200 := by omega
    have gn : g.ns.length ≤ 2000 := by omega
    have gn1 : 1 ≤ g.ns.length := by omega
    refine loop13_0 (g := g) g1 g4 gi gn (fun hE env e2 => ?_) (fun hE hE' env e1 => ?_) g.ns.length 0 _ (by omega) (by omega) (by simp) (by simp) (by simp)
    · simp -implicitDefEqProofs [e2]
      refine cv_fz 2 hcl rfl ?_
      simp [Gm.formR, hR, hc, hE]
    · have hG : Gd g := ⟨g1, g4, gn1, gn, gi, hE⟩
      simp -implicitDefEqProofs [e1, gbox]
      have hup : ∀ m, upq (H ++ [gbox g, (⟨[i64 0], 3, 0, true⟩ : AO)]) (H.length + 1) m = H ++ [gbox g, (⟨[i64 m], 3, 0, true⟩ : AO)] := fun m => by simp [upq]
      have hnx : ∀ x ∈ g.ns, x.nx.length < 4611686018427387904 := fun x hx => by have := nx_of (hE x hx); omega
      have ok := ok52 (g := g) (q := H.length + 1) gn hnx (g.ns.length + 1) (H ++ [gbox g, (⟨[i64 0], 3, 0, true⟩ : AO)]) 0 0 0 (by simp) (by omega) (by omega) (by omega) (by omega)
      rw [hup, hup] at ok
      have hwr : walkR g.ns (g.ns.length + 1) 0 0 0 = g.wr := rfl
      rw [hwr] at ok
      have hwok := walkR_ok (ns := g.ns) (g.ns.length + 1) 0 0 0
      rw [hwr] at hwok
      refine call_go ok ?_
      have hF : g.formR = if g.wr.1 ≠ some g.ns.length then 9 else if 40 < g.wr.2 then 5 else g.setsR := by
        unfold Gm.formR
        rw [if_neg (show ¬ g.rng by rw [hR]; exact hc), if_neg (show ¬ nodesE g g.ns ≠ 0 by simpa using hE')]
      have hres : resR g.wr.1 = (g.ns.length : Int) ↔ g.wr.1 = some g.ns.length := by
        cases h : g.wr.1 with
        | none => simp [resR]
        | some r => simp [resR]; omega
      simp -implicitDefEqProofs [gbox, e1]
      by_cases hk : g.wr.1 = some g.ns.length
      · rw [if_pos (hres.2 hk)]
        rw [hk] at hF
        by_cases hm : 40 < g.wr.2
        · rw [if_pos hm]
          refine cv_fz 2 hcl rfl ?_
          rw [hF]; simp [hm]
        · rw [if_neg hm]
          have hF' : g.formR = g.setsR := by rw [hF]; simp [hm]
          rw [hF']
          unfold Gm.setsR
          refine loop13_1 (g := g) (r := ⟨[i64 g.wr.2], 3, 0, true⟩) hG (fun hb env M h2 => ?_) (fun hb env M h1 => ?_) g.ns.length 0 _ [] (by omega) (by omega) (by simp [e1]) (by simp)
          · simp -implicitDefEqProofs [h2]
            refine cv_fz 2 hcl rfl ?_
            rw [if_pos hb]; simp
          · rw [if_neg hb]
            simp -implicitDefEqProofs [h1, gbox]
            have hh := fun H => ok53 (H := H) hG
            simp only [Gm.cells] at hh
            refine call_go (hh _) ?_
            have hsl : g.sets.length = g.is.length := sets_len
            rw [← hsl]
            simp -implicitDefEqProofs
            refine loop13_2 (A := g.sets) (by omega) (fun hz env h2 => ?_) (fun hz env h8 => ?_) g.sets.length 0 _ (by omega) (by omega) (by simp) (by simp)
            · simp -implicitDefEqProofs [h2]
              refine cv_fz 2 hcl rfl ?_
              simp [hz]
            · have hz' : ¬ [] ∈ g.sets := fun h => by
                obtain ⟨k, hk, e⟩ := List.getElem_of_mem h
                exact hz k hk e
              rw [if_neg hz']
              simp -implicitDefEqProofs [h8]
              refine loop13_3 (A := g.sets) (by omega) hz (fun hs env h2 => ?_) (fun hs env => ?_) g.sets.length 0 _ (by omega) (by omega) (by simp [h8]) (by simp)
              · simp -implicitDefEqProofs [h2]
                refine cv_fz 2 hcl rfl ?_
                simp [hs]
              · simp -implicitDefEqProofs
                refine cv_fz 2 hcl rfl ?_
                simp [hs]
      · rw [if_neg (fun h => hk (hres.1 h))]
        refine cv_fz 2 hcl rfl ?_
        rw [hF]; simp [hk]
end
end Go.Proofs.Ytbfeaikiiamhaaa.Rc

