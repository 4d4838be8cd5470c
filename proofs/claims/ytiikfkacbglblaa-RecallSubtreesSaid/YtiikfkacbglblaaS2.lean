/-
  Steps of the proof: contracts of functions and plain facts that the statement rests on.
-/
import Derived.Test.YtiikfkacbglblaaPart1
import Derived.Test.YtiikfkacbglblaaPart2
import Derived.Test.YtiikfkacbglblaaRk
set_option linter.all false
namespace Go.Proofs.Ytiikfkacbglblaa
open Go.Ab
theorem ok4 {H : List AO} : Ok Try.prog 4 [] H (.ret (bl true)) H := ok_lift known4 rfl
section
variable {g : Gm} {H G : List AO}
theorem sub_at (hW : Wg g) {k : Nat} (hk : k < g.ns.length) : ∃ r, Sub g.ns g.wk.2 k r ∧ r ≤ g.ns.length ∧ k < r := by
  obtain ⟨r, h1, h2, h3⟩ := hW.sub.facts.sub k (Nat.zero_le _) hk
  exact ⟨r, h1, h2, h3⟩
theorem in_step (hW : Wg g) {a t : Nat} (ha : a < g.ns.length) (ht : t < g.ns.length) (h0 : 0 < a) : ∃ p : Nat, gi g.wk.2.P a = p ∧ p < a ∧ ((a = t ∨ (t ≤ p ∧ (p : Int) ≤ gi g.wk.2.L t)) ↔ (t ≤ a ∧ (a : Int) ≤ gi g.wk.2.L t)) := by
  have f := hW.sub.facts
  obtain ⟨p, h1, h2, h3, h4⟩ := f.par a h0 ha
  refine ⟨p, h1, h3, fun h => ?_, fun ⟨k1, k2⟩ => ?_⟩
  · rcases h with rfl | ⟨k1, k2⟩
    · obtain ⟨r, s1, s2, s3⟩ := sub_at hW ha
      exact ⟨Nat.le_refl _, by rw [s1.last]; omega⟩
    · have := f.nest t p (Nat.zero_le _) k1 (by omega) k2
      exact ⟨by omega, by omega⟩
  · by_cases e : a = t
    · exact .inl e
    · have := f.up t a (Nat.zero_le _) (by omega) ha k2
      rw [h1] at this
      exact .inr ⟨by omega, by omega⟩
theorem in_root (hW : Wg g) {t : Nat} (ht : t < g.ns.length) : (0 = t) ↔ (t ≤ 0 ∧ ((0 : Nat) : Int) ≤ gi g.wk.2.L t) := by
  obtain ⟨r, s1, s2, s3⟩ := sub_at hW ht
  rw [s1.last]; omega
set_option maxRecDepth 10000 in
theorem loop7_2 (hW : Wg g) {t : Nat} (ht : t < g.ns.length) {e5 e6 e11 e18 : SV} {N : Nat} {K : XE → Env → List AO → Prop} {Q : Bool}
    (hexit : ∀ env, env.get 1 = i64 t → env.get 5 = e5 → env.get 6 = e6 → env.get 7 = sl g.wk.2.P → env.get 11 = e11 → env.get 18 = e18 → env.get 19 = bl Q → K (.exit 4) env G) :
    ∀ (f a n : Nat) (env : Env) (b : Bool), a < f → a < g.ns.length → a + n ≤ g.ns.length → (b || decide (t ≤ a ∧ (a : Int) ≤ gi g.wk.2.L t)) = Q → env.get 1 = i64 t → env.get 5 = e5 → env.get 6 = e6 → env.get 7 = sl g.wk.2.P → env.get 11 = e11 → env.get 18 = e18 → env.get 19 = bl b → env.get 20 = i64 a → env.get 21 = i64 n →
      LI Try.prog N drawB l7_2 env G K := by
  have hlen := wk_len (g := g)
  have hgn := hW.gd.n
  have hP : g.wk.2.P.length = g.ns.length := hlen.1
  intro f
  induction f with
  | zero => intro a n env b h; omega
  | succ f ih =>
    intro a n env b hf ha hn hQ h1 h5 h6 h7 h11 h18 h19 h20 h21
    refine li_go hm' l7_2.eq_1 ?_
    have haP : a < g.wk.2.P.length := by omega
    have w1 : IntKind.i64.wrap ((n : Int) + 1) = ((n + 1 : Nat) : Int) := wrap_succ (by omega)
    have hg := ints_get haP
    have hv : g.wk.2.P.getD a 0 = gi g.wk.2.P a := rfl
    rw [hv] at hg
    have hnl : n ≤ g.ns.length := by omega
    simp -implicitDefEqProofs [h1, h5, h6, h7, h11, h18, h19, h20, h21, sl, hP, ha, hnl, hg, w1]
    refine ⟨by omega, ?_⟩
    have hPa : g.wk.2.P[a] = gi g.wk.2.P a := gi_get haP
    rw [hPa]
    by_cases h0 : a = 0
    · subst h0
      rw [hW.wf.p0]
      refine li_go hm' l7_2.eq_1 ?_
      simp -implicitDefEqProofs [h1, h5, h6, h7, h11, h18, h19]
      refine hexit _ ?_ ?_ ?_ ?_ ?_ ?_ ?_
      all_goals simp [h1, h5, h6, h7, h11, h18, sl, hP]
      rw [← hQ]
      congr 2
      exact decide_eq_decide.2 ⟨fun h => (in_root hW ht).1 (by omega), fun h => by have := (in_root hW ht).2 h; omega⟩
    · obtain ⟨p, q1, q2, q3⟩ := in_step hW ha ht (by omega)
      rw [q1]
      refine ih p (n + 1) _ (b || decide ((a : Int) = t)) (by omega) (by omega) (by omega) ?_ ?_ ?_ ?_ ?_ ?_ ?_ ?_ ?_ ?_
      · rw [← hQ, Bool.or_assoc]
        congr 1
        rw [← Bool.decide_or]
        apply decide_eq_decide.2
        rw [← q3]; constructor
        · rintro (h | h); exact .inl (by omega); exact .inr h
        · rintro (h | h); exact .inl (by omega); exact .inr h
      all_goals simp [h1, h5, h6, h7, h11, h18, sl, hP]
set_option maxRecDepth 10000 in
theorem loop7_1 (hW : Wg g) {t : Nat} (ht : t < g.ns.length) {N : Nat} {K : XE → Env → List AO → Prop} {e5 : SV}
    (hexit : ∀ env, env.get 5 = e5 → K (.exit 2) env (H ++ [gbox g])) :
    ∀ (n i : Nat) (env : Env), i + n = g.ns.length → env.get 1 = i64 t → env.get 5 = e5 → env.get 6 = .ptr (.own H.length 0 0 0 0) 0 → env.get 7 = sl g.wk.2.P → env.get 11 = i64 (gi g.wk.2.L t) → env.get 18 = i64 i →
      LI Try.prog N drawB l7_1 env (H ++ [gbox g]) K := by
  have hgn := hW.gd.n
  intro n
  induction n with
  | zero =>
    intro i env hi h1 h5 h6 h7 h11 h18
    refine li_go hm' l7_1.eq_1 ?_
    have e : i = g.ns.length := by omega
    subst e
    simp -implicitDefEqProofs [h1, h5, h6, h7, h11, h18, gbox]
    exact hexit _ (by simp [h5])
  | succ n ih =>
    intro i env hi h1 h5 h6 h7 h11 h18
    refine li_go hm' l7_1.eq_1 ?_
    have hlt : i < g.ns.length := by omega
    have w1 : IntKind.i64.wrap ((i : Int) + 1) = ((i + 1 : Nat) : Int) := wrap_succ (by omega)
    simp -implicitDefEqProofs [h1, h5, h6, h7, h11, h18, gbox, hlt]
    refine loop7_2 (G := H ++ [gbox g]) hW ht (e5 := e5) (e6 := .ptr (.own H.length 0 0 0 0) 0) (e11 := i64 (gi g.wk.2.L t)) (e18 := i64 i) (Q := decide (t ≤ i ∧ (i : Int) ≤ gi g.wk.2.L t)) (fun env k1 k5 k6 k7 k11 k18 k19 => ?_) (i + 1) i 0 _ false (by omega) hlt (by omega) (by simp) ?_ ?_ ?_ ?_ ?_ ?_ ?_ ?_ ?_
    · simp -implicitDefEqProofs [k1, k5, k6, k7, k11, k18, k19]
      rw [w1]
      refine ih (i + 1) _ (by omega) ?_ ?_ ?_ ?_ ?_ ?_ <;> simp [k1, k5, k6, k7, k11, k18]
    all_goals simp [h1, h5, h6, h7, h11, h18]
theorem last_ok (hF : g.formE = 0) {c : Nat} (hc : c < g.ns.length) : Ok Try.prog 22 [.agg g.cells, i64 c] H (.ret (.tup [i64 (gi g.wk.2.L c), i64 0])) H := by
  have := ok22 (H := H) (g := g) c
  unfold Gm.last at this
  rw [if_neg (by omega), if_neg (by omega)] at this
  simpa [tup2] using this
set_option maxRecDepth 10000 in
theorem loop7_0 (hF : g.formE = 0) (hW : Wg g) {t : Nat} (ht : t < g.ns.length) {r : Nat} {N : Nat} {K : XE → Env → List AO → Prop} {e5 : SV}
    (hexit : ∀ env, env.get 1 = i64 t → env.get 5 = e5 → env.get 6 = .ptr (.own H.length 0 0 0 0) 0 → env.get 7 = sl g.wk.2.P → env.get 11 = i64 (gi g.wk.2.L t) → env.get 13 = i64 r → K (.exit 0) env (H ++ [gbox g])) :
    ∀ (n i r0 : Nat) (env : Env), i + n = g.ns[t].nx.length → Kids g.ns g.wk.2 t (g.ns[t].nx.drop i) r0 r → env.get 1 = i64 t → env.get 5 = e5 → env.get 6 = .ptr (.own H.length 0 0 0 0) 0 → env.get 7 = sl g.wk.2.P → env.get 9 = sl g.wk.2.D → env.get 11 = i64 (gi g.wk.2.L t) → env.get 13 = i64 r0 → env.get 14 = i64 i →
      LI Try.prog N drawB l7_0 env (H ++ [gbox g]) K := by
  have hgn := hW.gd.n
  have hP : g.wk.2.P.length = g.ns.length := (wk_len (g := g)).1
  have hD : g.wk.2.D.length = g.ns.length := (wk_len (g := g)).2.1
  have d3 := nds_g3 ht
  intro n
  induction n with
  | zero =>
    intro i r0 env hi hk h1 h5 h6 h7 h9 h11 h13 h14
    refine li_go hm' l7_0.eq_1 ?_
    have e : i = g.ns[t].nx.length := by omega
    subst e
    rw [List.drop_length] at hk
    cases hk
    simp -implicitDefEqProofs [h1, h5, h6, h7, h9, h11, h13, h14, gbox, ht, nds_len, d3]
    refine ⟨by omega, ?_⟩
    refine hexit _ ?_ ?_ ?_ ?_ ?_ ?_ <;> simp [h1, h5, h6, h7, h11, h13]
  | succ n ih =>
    intro i r0 env hi hk h1 h5 h6 h7 h9 h11 h13 h14
    refine li_go hm' l7_0.eq_1 ?_
    have hx60 := nx_of (hW.gd.e _ (List.getElem_mem ht))
    have hlt : i < g.ns[t].nx.length := by omega
    rw [List.drop_eq_getElem_cons hlt] at hk
    have w1 : IntKind.i64.wrap ((i : Int) + 1) = ((i + 1 : Nat) : Int) := wrap_succ (by omega)
    generalize hc : g.ns[t].nx[i] = c at hk
    generalize hcs : g.ns[t].nx.drop (i + 1) = cs at hk
    cases hk with
    | cons _ _ r1 _ _ hp hd hs hk =>
      have hf := hs.facts.lt
      have hkf := hk.facts.le
      obtain ⟨rt, st1, st2, st3⟩ := sub_at hW ht
      have hr1 : r0 < g.ns.length := by
        cases hs with
        | mk _ _ x hx _ _ => exact getElem?_lt hx
      have q1 := ints_get (l := g.wk.2.P) (k := r0) (by omega)
      have q2 := ints_get (l := g.wk.2.D) (k := r0) (by omega)
      have q3 := ints_get (l := g.wk.2.D) (k := t) (by omega)
      have hr2 : r1 ≤ g.ns.length := by
        obtain ⟨rr, s1, s2, s3⟩ := sub_at hW hr1
        have := s1.last; have := hs.last; omega
      rw [show g.wk.2.P.getD r0 0 = gi g.wk.2.P r0 from rfl] at q1
      rw [show g.wk.2.D.getD r0 0 = gi g.wk.2.D r0 from rfl] at q2
      rw [show g.wk.2.D.getD t 0 = gi g.wk.2.D t from rfl] at q3
      have hdl := hW.wf.dle hW ht
      have hdg := hW.wf.dge t t (Nat.le_refl _) ht
      have w2 : IntKind.i64.wrap (gi g.wk.2.D t + 1) = gi g.wk.2.D t + 1 := wrap_id (by omega) (by omega)
      have w3 : IntKind.i64.wrap (gi g.wk.2.L r0 + 1) = r1 := by rw [hs.last, wrap_id (by omega) (by omega)]; omega
      simp -implicitDefEqProofs [h1, h5, h6, h7, h9, h11, h13, h14, gbox, ht, nds_len, d3, hlt, hc]
      refine ⟨by omega, by omega, ?_⟩
      refine call_go (last_ok hF hr1) ?_
      have p1 : g.wk.2.P[r0]'(by omega) = (t : Int) := by rw [gi_get]; exact hp
      have p2 : g.wk.2.D[r0]'(by omega) = gi g.wk.2.D t + 1 := by rw [gi_get]; exact hd
      have p3 : g.wk.2.D[t]'(by omega) = gi g.wk.2.D t := by rw [gi_get]
      simp -implicitDefEqProofs [h1, h5, h6, h7, h9, h11, h13, h14, gbox, ht, nds_len, d3, hlt, hc, sl, hP, hD, hr1, w2, w3, p1, p2, p3]
      rw [w1]
      refine ⟨by omega, by omega, ?_⟩
      refine ih (i + 1) r1 _ (by omega) (by rw [hcs]; exact hk) ?_ ?_ ?_ ?_ ?_ ?_ ?_ ?_
      all_goals simp [h1, h5, h6, h7, h9, h11, sl, hP, hD]
set_option maxRecDepth 10000 in
/-- RecallSubtrees, as far as its code goes. -/
theorem ok7 {l : List Int} (at' : Int) : Ok Try.prog 7 [.slc (ints l) l.length, i64 at'] H (.ret (bl true)) H := by
  refine ok_fn hm' Try.func7 c7 (by simp) fun hcl => ?_
  by_cases hlong : 200 < (l.length : Int)
  · simp -implicitDefEqProofs [i7, r7]
    refine call_go ok4 ?_
    simp -implicitDefEqProofs [hlong]
    exact cv_id
  · simp -implicitDefEqProofs [i7, r7]
    refine call_go ok4 ?_
    simp -implicitDefEqProofs [hlong]
    refine call_goP (ok36 (by omega) (by omega) (by omega) (by omega) (by omega)) ?_
    rintro o G' ⟨g, hm, rfl, rfl⟩
    have hF := hm.form (by omega) (by omega) (by omega)
    have hW := wg_of hF
    have hgn := hW.gd.n
    have hg1 := hW.gd.n1
    have hP : g.wk.2.P.length = g.ns.length := (wk_len (g := g)).1
    have hD : g.wk.2.D.length = g.ns.length := (wk_len (g := g)).2.1
    obtain ⟨t, htt⟩ : ∃ t : Nat, at' % (g.ns.length : Int) = t := ⟨(at' % (g.ns.length : Int)).toNat, by have := Int.emod_nonneg at' (show (g.ns.length : Int) ≠ 0 by omega); omega⟩
    have ht : t < g.ns.length := by have := Int.emod_lt_of_pos at' (show 0 < (g.ns.length : Int) by omega); omega
    have o30 := ok30 (H := G' ++ [gbox g]) (g := g)
    have o20 := ok20 (H := G' ++ [gbox g]) (g := g)
    simp only [Gm.out, hF, if_true] at o30 o20
    have p0 : (ints g.wk.2.P).head? = some (i64 (-1)) := by rw [ints_h (by intro e; rw [e] at hP; simp at hP; omega)]; exact congrArg (fun x => some (i64 x)) hW.wf.p0
    have p1 : (ints g.wk.2.D).head? = some (i64 0) := by rw [ints_h (by intro e; rw [e] at hD; simp at hD; omega)]; exact congrArg (fun x => some (i64 x)) hW.wf.d0
    simp -implicitDefEqProofs [Gm.cells]
    refine call_go (ok34 at' g.ns.length (by omega) (by omega)) ?_
    simp -implicitDefEqProofs [htt]
    refine call_go o30 ?_
    simp -implicitDefEqProofs [htt, gbox]
    refine call_go o20 ?_
    simp -implicitDefEqProofs [htt, gbox, Gm.cells]
    refine call_go (last_ok hF ht) ?_
    have w1 : IntKind.i64.wrap ((t : Int) + 1) = ((t + 1 : Nat) : Int) := wrap_succ (by omega)
    simp -implicitDefEqProofs [htt, gbox, Gm.cells, sl, hP, hD, p0, p1, show 0 < g.ns.length by omega, w1]
    refine ⟨by omega, ?_⟩
    obtain ⟨r, hs, hr1, hr2⟩ := sub_at hW ht
    have hlast := hs.last
    cases hs with
    | mk _ _ x hx _ hk =>
      rw [List.getElem?_eq_getElem ht] at hx; cases hx
      refine loop7_0 (g := g) (H := G') hF hW ht (r := r) (e5 := bl true) (fun env k1 k5 k6 k7 k11 k13 => ?_) g.ns[t].nx.length 0 (t + 1) _ (by omega) (by simpa using hk) ?_ ?_ ?_ ?_ ?_ ?_ ?_ ?_
      · have w2 : IntKind.i64.wrap ((r : Int) - 1) = r - 1 := wrap_id (by omega) (by omega)
        simp -implicitDefEqProofs [k1, k5, k6, k7, k11, k13, hlast, w2]
        refine loop7_1 (g := g) (H := G') hW ht (e5 := bl true) (fun env k5 => ?_) g.ns.length 0 _ (by omega) ?_ ?_ ?_ ?_ ?_ ?_
        · simp -implicitDefEqProofs [k5]
          exact cv_fz 2 hcl rfl (by simp)
        all_goals simp [k1, k5, k6, k7, k11, k13, hlast]
      all_goals simp [sl, hP, hD]
end
end Go.Proofs.Ytiikfkacbglblaa
