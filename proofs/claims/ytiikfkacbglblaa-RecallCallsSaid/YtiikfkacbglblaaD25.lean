/-
  Steps of the proof: contracts of functions and plain facts that the statement rests on.
-/
import Derived.Test.YtiikfkacbglblaaD24
set_option linter.all false
namespace Go.Proofs.Ytiikfkacbglblaa
open Go.Ab
theorem wv_facts (l : List (Int × Int)) : (wv l).vd = true ∧ (wv l).ug = wv l ∧ (wv l).isSl = true ∧ (wv l).slen = l.length ∧ (wv l).isCell = true ∧ (wv l).flat = [wv l] := by
  unfold wv
  split
  · rename_i h; subst h; exact ⟨rfl, rfl, rfl, rfl, rfl, rfl⟩
  · exact ⟨rfl, rfl, rfl, rfl, rfl, rfl⟩
theorem wv_ne {l : List (Int × Int)} (h : l ≠ []) : wv l = .slc (infs l) l.length := if_neg h
section
variable {H : List AO} {g : Gm} {a b : List (Int × Int)}
set_option maxRecDepth 10000 in
theorem loop83 (hl : a.length ≤ 100000) (hab : a.length = b.length) {N : Nat} {K : XE → Env → List AO → Prop}
    (hret : a ≠ b → ∀ env, env.get 4 = bl false → K .ret env H) (hexit : a = b → ∀ env, K (.exit 0) env H) :
    ∀ (n i : Nat) (env : Env), i + n = a.length → (∀ k (h : k < a.length), k < i → a[k] = b[k]'(by omega)) → env.get 0 = wv a → env.get 1 = wv b → env.get 12 = i64 a.length → env.get 13 = i64 i →
      LI Try.prog N drawB l83_0 env H K := by
  intro n
  induction n with
  | zero =>
    intro i env hi hp h0 h1 h12 h13
    refine li_go hm l83_0.eq_1 ?_
    have e : i = a.length := by omega
    subst e
    simp -implicitDefEqProofs [h12, h13]
    exact hexit (List.ext_getElem hab fun k h1 h2 => hp k h1 h1) _
  | succ n ih =>
    intro i env hi hp h0 h1 h12 h13
    refine li_go hm l83_0.eq_1 ?_
    have hlt : i < a.length := by omega
    have hlt' : i < b.length := by omega
    have ha : a ≠ [] := fun e => by subst e; simp at hlt
    have hb : b ≠ [] := fun e => by subst e; simp at hlt'
    have w1 : IntKind.i64.wrap ((i : Int) + 1) = ((i + 1 : Nat) : Int) := wrap_succ (by omega)
    have f1 := wv_ne ha; have f2 := wv_ne hb
    simp -implicitDefEqProofs [h0, h1, h12, h13, f1, f2, hlt, hlt', infs_at hlt, infs_at hlt', infs_min hlt, infs_ge hlt, infs_min hlt', infs_ge hlt']
    by_cases hc : a[i] = b[i]
    · rw [if_neg (by rw [hc]; simp)]
      rw [w1]
      refine ih (i + 1) _ (by omega) ?_ ?_ ?_ ?_ ?_
      rotate_left
      · simp [f1]
      · simp [f2]
      · simp
      · simp
      intro k hk hki
      by_cases e : k = i
      · subst e; exact hc
      · exact hp k hk (by omega)
    · rw [if_pos (by
        by_cases h1 : a[i].1 = b[i].1
        · exact .inr fun h2 => hc (Prod.ext h1 h2)
        · exact .inl h1)]
      exact hret (fun e => hc (by subst e; rfl)) _ (by simp)
theorem ok83 (hl : a.length ≤ 100000) : Ok Try.prog 83 [wv a, wv b] H (.ret (bl (decide (a = b)))) H := by
  obtain ⟨v1, v2, v3, v4, v5, v6⟩ := wv_facts a
  obtain ⟨u1, u2, u3, u4, u5, u6⟩ := wv_facts b
  refine ok_fn hm Try.func83 c83 (by simp) fun hcl => ?_
  by_cases hab : a.length = b.length
  · simp -implicitDefEqProofs [i83, r83, v1, v2, v3, v4, u1, u2, u3, u4, hab]
    refine loop83 (a := a) (b := b) hl hab (fun hne env h4 => ?_) (fun he env => ?_) a.length 0 _ (by omega) (by omega) (by simp) (by simp) (by simp [hab]) (by simp)
    · simp -implicitDefEqProofs [h4, hne]
      exact cv_id
    · simp -implicitDefEqProofs [he]
      exact cv_id
  · simp -implicitDefEqProofs [i83, r83, v1, v2, v3, v4, u1, u2, u3, u4, show ¬ ((a.length : Int) = b.length) by omega, hab]
    have : a ≠ b := fun e => hab (by rw [e])
    simp [this]
    exact cv_id
theorem ok69 (hl : a.length ≤ 100000) : Ok Try.prog 69 [wv a, wv b] H (.ret (bl (decide (a = b)))) H := by
  obtain ⟨v1, v2, v3, v4, v5, v6⟩ := wv_facts a
  obtain ⟨u1, u2, u3, u4, u5, u6⟩ := wv_facts b
  refine ok_fn hm Try.func69 c69 (by simp) fun hcl => ?_
  simp -implicitDefEqProofs [i69, r69, v1, v2, v3, v4, u1, u2, u3, u4]
  refine call_go (ok83 hl) ?_
  simp -implicitDefEqProofs
  exact cv_id
end
end Go.Proofs.Ytiikfkacbglblaa
