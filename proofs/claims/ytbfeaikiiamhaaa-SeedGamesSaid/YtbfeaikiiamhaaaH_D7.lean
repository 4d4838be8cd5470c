/-
  Steps of the proof: contracts of functions and plain facts that the statement rests on.
-/
import Derived.Test.YtbfeaikiiamhaaaH_D6
set_option linter.all false
namespace Go.Proofs.Ytbfeaikiiamhaaa.Rc
open Go.Ab
/-- The first node of each set, and 1; 0 where there is none. -/
def fst1 : List Nd → Nat → List Int → List Int
  | [], _, z => z
  | x :: r, o, z => if x.k = 2 then (fst1 r (o + 1) z).set x.i.toNat (o + 1) else fst1 r (o + 1) z
@[simp] theorem fst1_len (z : List Int) : ∀ (l : List Nd) (o : Nat), (fst1 l o z).length = z.length
  | [], o => rfl
  | x :: r, o => by unfold fst1; split <;> simp [fst1_len z r (o + 1)]
def ro (l : List Int) : AO := ⟨ints l, 3, 0, true⟩
def Nd.tyBad (g : Gm) (x : Nd) : Prop := x.k = 2 ∧ g.is[x.i.toNat]? ≠ some (x.p, (x.nx.length : Int))
instance (g : Gm) (x : Nd) : Decidable (x.tyBad g) := by unfold Nd.tyBad; infer_instance
def Gm.firsts (g : Gm) : List Int := fst1 g.ns 0 (List.replicate g.is.length 0)
def Gm.setsE (g : Gm) : Int := if ∃ x ∈ g.ns, x.tyBad g then 10 else if 0 ∈ g.firsts then 18 else if Srt g.firsts then 0 else 9
/-- The nodes are well formed, each by itself. -/
structure Gd (g : Gm) : Prop where
  p1 : 1 ≤ g.pl
  p4 : g.pl ≤ 4
  n1 : 1 ≤ g.ns.length
  n : g.ns.length ≤ 2000
  i : g.is.length ≤ 200
  e : ∀ x ∈ g.ns, x.err g = 0
theorem Gd.inf {g : Gm} (h : Gd g) {x : Nd} (hx : x ∈ g.ns) (hk : x.k = 2) : 0 ≤ x.i ∧ x.i < g.is.length := by
  have := h.e x hx
  unfold Nd.err Nd.move at this
  rw [if_neg (by omega), if_neg (by omega), if_pos hk] at this
  split at this
  · omega
  · rw [within1, within1] at this
    split at this
    · split at this <;> omega
    · split at this <;> omega
theorem infs_drop : ∀ {l : List (Int × Int)} {k : Nat} (h : k < l.length), (infs l).drop (2 * k) = i64 l[k].1 :: i64 l[k].2 :: infs (l.drop (k + 1))
  | [], k, h => by simp at h
  | x :: r, 0, h => rfl
  | x :: r, k + 1, h => by
    rw [show 2 * (k + 1) = 2 * k + 2 by omega]
    simp only [infs, List.drop_succ_cons]
    rw [infs_drop (l := r) (k := k) (by simpa using h)]
    simp
theorem nds_drop' : ∀ {l : List Nd} {k : Nat} (h : k < l.length), (nds l).drop (6 * k) = l[k].cells ++ nds (l.drop (k + 1))
  | [], k, h => by simp at h
  | x :: r, 0, h => rfl
  | x :: r, k + 1, h => by
    rw [show 6 * (k + 1) = 6 * k + 6 by omega]
    simp only [nds, Nd.cells, List.drop_succ_cons, List.cons_append, List.nil_append]
    rw [nds_drop' (l := r) (k := k) (by simpa using h)]
    simp [Nd.cells]
theorem infs_len : ∀ l : List (Int × Int), (infs l).length = 2 * l.length
  | [] => rfl
  | x :: r => by simp [infs, infs_len r]; omega
theorem nds_at {l : List Nd} {k : Nat} (h : k < l.length) : (nds l).drop (k * 6) = i64 l[k].k :: i64 l[k].p :: i64 l[k].i :: sl l[k].nx :: sl l[k].ws :: sl l[k].ps :: nds (l.drop (k + 1)) := by
  rw [Nat.mul_comm, nds_drop' h]; rfl
theorem nds_min {l : List Nd} {k : Nat} (h : k < l.length) : min 6 ((nds l).length - k * 6) = 6 := by rw [nds_len]; omega
theorem nds_ge {l : List Nd} {k : Nat} (h : k < l.length) : 6 ≤ (nds l).length - k * 6 := by rw [nds_len]; omega
theorem infs_at {l : List (Int × Int)} {k : Nat} (h : k < l.length) : (infs l).drop (k * 2) = i64 l[k].1 :: i64 l[k].2 :: infs (l.drop (k + 1)) := by
  rw [Nat.mul_comm, infs_drop h]
theorem infs_min {l : List (Int × Int)} {k : Nat} (h : k < l.length) : min 2 ((infs l).length - k * 2) = 2 := by rw [infs_len]; omega
theorem infs_ge {l : List (Int × Int)} {k : Nat} (h : k < l.length) : 2 ≤ (infs l).length - k * 2 := by rw [infs_len]; omega
section
variable {H : List AO} {j : Nat} {g : Gm} {a b c : SV}
set_option maxRecDepth 10000 in
theorem loop64_0 (h : Wk H j g a b c) (hg : Gd g) {N : Nat} {K : XE → Env → List AO → Prop}
    (hexit : ∀ env M, env.get 0 = .ptr (.own j 0 0 0 0) 0 → env.get 3 = .own H.length 0 g.is.length 1 0 → K (.exit 0) env (H ++ ro g.firsts :: M)) :
    ∀ (n : Nat) (env : Env) (M : List AO), n ≤ g.ns.length → env.get 0 = .ptr (.own j 0 0 0 0) 0 → env.get 3 = .own H.length 0 g.is.length 1 0 → env.get 4 = i64 ((n : Int) - 1) →
      LI Try.prog N drawB l62_0 env (H ++ ro (fst1 (g.ns.drop n) n (List.replicate g.is.length 0)) :: M) K := by
  intro n
  induction n with
  | zero =>
    intro env M hi h0 h3 h4
    refine li_go hm l62_0.eq_1 ?_
    simp -implicitDefEqProofs [h0, h3, h4]
    exact hexit _ _ (by simp [h0]) (by simp [h3])
  | succ n ih =>
    intro env M hi h0 h3 h4
    refine li_go hm l62_0.eq_1 ?_
    have hn := hg.n
    have hx : g.ns[n] ∈ g.ns := List.getElem_mem hi
    have w1 : IntKind.i64.wrap (n : Int) = n := wrap_nat (by omega)
    have e : ((n + 1 : Nat) : Int) - 1 = n := by omega
    rw [e] at h4
    have w2 : IntKind.i64.wrap ((n : Int) + 1) = ((n + 1 : Nat) : Int) := wrap_succ (by omega)
    have w3 : IntKind.i64.wrap ((n : Int) - 1) = (n : Int) - 1 := wrap_id (by omega) (by omega)
    by_cases hk : g.ns[n].k = 2
    · have hb := hg.inf hx hk
      have e7 : fst1 (g.ns.drop n) n (List.replicate g.is.length 0) = (fst1 (g.ns.drop (n + 1)) (n + 1) (List.replicate g.is.length 0)).set g.ns[n].i.toNat ((n + 1 : Nat) : Int) := by
        rw [List.drop_eq_getElem_cons hi, fst1, if_pos hk]; rfl
      rw [e7] at ih
      simp -implicitDefEqProofs [h0, h3, h4, (h.app _).o, hi, nds_at hi, nds_min hi, nds_ge hi, hk, sl, ro]
      refine ⟨by omega, by omega, by omega, ?_⟩
      rw [w2, ints_set (by simp; omega), w3]
      refine ih _ _ (by omega) ?_ ?_ ?_
      · simp
      · simp
      · simp
    · have e7 : fst1 (g.ns.drop n) n (List.replicate g.is.length 0) = fst1 (g.ns.drop (n + 1)) (n + 1) (List.replicate g.is.length 0) := by
        rw [List.drop_eq_getElem_cons hi, fst1, if_neg hk]
      rw [e7] at ih
      simp -implicitDefEqProofs [h0, h3, h4, (h.app _).o, hi, nds_at hi, nds_min hi, nds_ge hi, hk, sl]
      refine ⟨by omega, ?_⟩
      rw [w3]
      refine ih _ _ (by omega) ?_ ?_ ?_
      · simp
      · simp
      · simp
set_option maxRecDepth 10000 in
theorem loop64_1 (h : Wk H j g a b c) (hg : Gd g) {N : Nat} {K : XE → Env → List AO → Prop} {r : AO}
    (hret : (∃ x ∈ g.ns, x.tyBad g) → ∀ env M, env.get 2 = i64 10 → K .ret env (H ++ r :: M))
    (hexit : (¬ ∃ x ∈ g.ns, x.tyBad g) → ∀ env M, env.get 3 = .own H.length 0 g.is.length 1 0 → K (.exit 2) env (H ++ r :: M)) :
    ∀ (n i : Nat) (env : Env) (M : List AO), i + n = g.ns.length → (∀ k (h : k < g.ns.length), k < i → ¬ g.ns[k].tyBad g) → env.get 0 = .ptr (.own j 0 0 0 0) 0 → env.get 3 = .own H.length 0 g.is.length 1 0 →
      env.get 47 = .slc (nds g.ns) g.ns.length → env.get 48 = i64 g.ns.length → env.get 49 = i64 i → LI Try.prog N drawB l62_1 env (H ++ r :: M) K := by
  have hn := hg.n
  intro n
  induction n with
  | zero =>
    intro i env M hi hp h0 h3 h47 h48 h49
    refine li_go hm l62_1.eq_1 ?_
    have e : i = g.ns.length := by omega
    subst e
    simp -implicitDefEqProofs [h0, h3, h48, h49]
    refine hexit ?_ _ _ (by simp [h3])
    rintro ⟨x, hx, hb⟩
    obtain ⟨k, hk, rfl⟩ := List.getElem_of_mem hx
    exact hp k hk hk hb
  | succ n ih =>
    intro i env M hi hp h0 h3 h47 h48 h49
    refine li_go hm l62_1.eq_1 ?_
    have hlt : i < g.ns.length := by omega
    have hx : g.ns[i] ∈ g.ns := List.getElem_mem hlt
    have w1 : IntKind.i64.wrap ((i : Int) + 1) = ((i + 1 : Nat) : Int) := wrap_succ (by omega)
    by_cases hk : g.ns[i].k = 2
    · have hb := hg.inf hx hk
      have hb' : g.ns[i].i.toNat < g.is.length := by omega
      simp -implicitDefEqProofs [h0, h3, h47, h48, h49, (h.app _).o, hlt, nds_at hlt, nds_min hlt, nds_ge hlt, infs_at hb', infs_min hb', infs_ge hb', hk, sl]
      refine ⟨by omega, ?_⟩
      have hbad : (¬g.is[g.ns[i].i.toNat].fst = g.ns[i].p ∨ ¬g.is[g.ns[i].i.toNat].snd = (g.ns[i].nx.length : Int)) ↔ g.ns[i].tyBad g := by
        unfold Nd.tyBad
        rw [List.getElem?_eq_getElem hb']
        simp only [hk, true_and, ne_eq, Option.some.injEq]
        rw [← Prod.eta g.is[g.ns[i].i.toNat], Prod.mk.injEq]
        constructor
        · rintro (h | h) ⟨h1, h2⟩
          · exact h h1
          · exact h h2
        · intro h
          by_cases h1 : g.is[g.ns[i].i.toNat].fst = g.ns[i].p
          · exact .inr fun h2 => h ⟨h1, h2⟩
          · exact .inl h1
      split
      · rename_i hc
        exact hret ⟨_, hx, hbad.1 hc⟩ _ _ (by simp)
      · rename_i hc
        rw [w1]
        refine ih (i + 1) _ _ (by omega) ?_ ?_ ?_ ?_ ?_ ?_
        rotate_left
        · simp
        · simp
        · simp
        · simp
        · simp
        intro k hk hki
        by_cases e : k = i
        · subst e; exact fun hb => hc (hbad.2 hb)
        · exact hp k hk (by omega)
    · simp -implicitDefEqProofs [h0, h3, h47, h48, h49, (h.app _).o, hlt, nds_at hlt, nds_min hlt, nds_ge hlt, hk, sl]
      rw [w1]
      refine ih (i + 1) _ _ (by omega) ?_ ?_ ?_ ?_ ?_ ?_
      rotate_left
      · simp
      · simp
      · simp
      · simp
      · simp
      intro k hk' hki
      by_cases e : k = i
      · subst e; exact fun hb => hk hb.1
      · exact hp k hk' (by omega)
set_option maxRecDepth 10000 in
theorem ok62 (h : Wk H j g a b c) (hg : Gd g) : Ok Try.prog 62 [.ptr (.own j 0 0 0 0) 0] H (.ret (i64 g.setsE)) H := by
  have hn := hg.n
  have hi := hg.i
  have w1 : IntKind.i64.wrap ((g.ns.length : Int) - 1) = (g.ns.length : Int) - 1 := wrap_id (by omega) (by omega)
  refine ok_fn hm Try.func62 c62 (by simp [h.lt]) fun hcl => ?_
  simp -implicitDefEqProofs [i62, r62, h.o, (h.app _).o, w1]
  refine ⟨by omega, by omega, ?_⟩
  have e0 : [(⟨List.replicate g.is.length (i64 0), 3, 0, true⟩ : AO)] = ro (fst1 (g.ns.drop g.ns.length) g.ns.length (List.replicate g.is.length 0)) :: [] := by
    simp [ro, fst1, ints]
  rw [e0]
  refine loop64_0 h hg (fun env M h0 h3 => ?_) g.ns.length _ _ (Nat.le_refl _) (by simp) (by simp) (by simp)
  simp -implicitDefEqProofs [h0, h3, (h.app _).o]
  have hF : g.firsts.length = g.is.length := by simp [Gm.firsts]
  refine loop64_1 h hg (fun hb env M h2 => ?_) (fun hb env M h3 => ?_) g.ns.length 0 _ _ (by omega) (by omega) (by simp [h0]) (by simp [h3]) (by simp) (by simp) (by simp)
  · simp -implicitDefEqProofs [h2]
    refine cv_fz 1 hcl rfl ?_
    simp [Gm.setsE, if_pos hb]
  · have hI : ∀ M, IsI (H ++ ro g.firsts :: M) (.own H.length 0 g.is.length 1 0) g.firsts := fun M => by
      have := IsI.own0 H (ro g.firsts :: M) 0 0 g.firsts [] 3 (by simp [ro])
      rwa [hF] at this
    simp -implicitDefEqProofs [h3]
    refine call_go (ok66 (hI M) (by omega) 0) ?_
    by_cases h0 : 0 ∈ g.firsts
    · simp -implicitDefEqProofs [h0]
      refine cv_fz 1 hcl rfl ?_
      simp [Gm.setsE, if_neg hb, h0]
    · simp -implicitDefEqProofs [h0, h3]
      refine call_go (ok67 (hI M) (by omega)) ?_
      by_cases h1 : Srt g.firsts
      · simp -implicitDefEqProofs [h1]
        refine cv_fz 1 hcl rfl ?_
        simp [Gm.setsE, if_neg hb, h0, h1]
      · simp -implicitDefEqProofs [h1]
        refine cv_fz 1 hcl rfl ?_
        simp [Gm.setsE, if_neg hb, h0, h1]
end
end Go.Proofs.Ytbfeaikiiamhaaa.Rc

