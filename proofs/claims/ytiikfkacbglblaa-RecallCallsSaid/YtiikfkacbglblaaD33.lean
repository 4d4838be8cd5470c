/-
  Steps of the proof: contracts of functions and plain facts that the statement rests on.
-/
import Derived.Test.YtiikfkacbglblaaD31
set_option linter.all false
namespace Go.Proofs.Ytiikfkacbglblaa
open Go.Ab
theorem nl_sl : (SV.val (Value.slice none 0 0)).isSl = true := rfl
theorem nl_len : (SV.val (Value.slice none 0 0)).slen = 0 := rfl
section
variable {H : List AO} {g : Gm}
theorem nl_ints : IsI H nl [] := ⟨rfl, rfl, rfl, rfl, rfl, rfl, rfl, rfl, rfl⟩
theorem ok23n : Ok Try.prog 23 [nl, nl] H (.ret (bl true)) H := ok23s nl_ints nl_ints (by simp)
set_option maxRecDepth 10000 in
theorem loop19 {l : List (Int × Int)} (hl : l.length ≤ 100000) {N : Nat} {K : XE → Env → List AO → Prop} (hexit : ∀ env, K (.exit 0) env H) :
    ∀ (n i : Nat) (env : Env), i + n = l.length → env.get 0 = wv l → env.get 1 = ws l → env.get 5 = i64 i → LI Try.prog N drawB l19_0 env H K := by
  obtain ⟨v1, v2, v3, v4, v5, v6⟩ := wv_facts l
  intro n
  induction n with
  | zero =>
    intro i env hi h0 h1 h5
    refine li_go hm l19_0.eq_1 ?_
    have e : i = l.length := by omega
    subst e
    simp -implicitDefEqProofs [h0, h1, h5, v1, v2, v3, v4]
    exact hexit _
  | succ n ih =>
    intro i env hi h0 h1 h5
    refine li_go hm l19_0.eq_1 ?_
    have hlt : i < l.length := by omega
    have hne : l ≠ [] := fun e => by subst e; simp at hlt
    have w1 : IntKind.i64.wrap ((i : Int) + 1) = ((i + 1 : Nat) : Int) := wrap_succ (by omega)
    rw [wv_ne hne] at h0
    simp -implicitDefEqProofs [h0, h1, h5, ws, hlt, infs_at hlt, infs_min hlt, infs_ge hlt]
    rw [w1]
    exact ih (i + 1) _ (by omega) (by simp [wv_ne hne]) (by simp [ws]) (by simp)
theorem ok19 {l : List (Int × Int)} (hl : l.length ≤ 100000) : Ok Try.prog 19 [wv l, ws l] H (.ret (bl true)) H := by
  obtain ⟨v1, v2, v3, v4, v5, v6⟩ := wv_facts l
  refine ok_fn hm Try.func19 c19 (by simp) fun hcl => ?_
  simp -implicitDefEqProofs [i19, r19, v1, v2, v3, v4, ws]
  refine loop19 (l := l) hl (fun env => ?_) l.length 0 _ (by omega) (by simp) (by simp [ws]) (by simp)
  simp -implicitDefEqProofs
  exact cv_id
theorem ok19n : Ok Try.prog 19 [nl, nl] H (.ret (bl true)) H := by
  refine ok_fn hm Try.func19 c19 (by simp) fun hcl => ?_
  simp -implicitDefEqProofs [i19, r19, nl_sl, nl_len]
  refine li_go hm l19_0.eq_1 ?_
  simp -implicitDefEqProofs [nl_sl, nl_len]
  exact cv_id
set_option maxRecDepth 10000 in
theorem loop25 {l : List Fl} (hl : l.length ≤ 1000000) {N : Nat} {K : XE → Env → List AO → Prop} (hexit : ∀ env, K (.exit 0) env H) :
    ∀ (n i : Nat) (env : Env), i + n = l.length → env.get 0 = fv l → env.get 1 = fs l → env.get 5 = i64 i → LI Try.prog N drawB l25_0 env H K := by
  have hv : (fv l).vd = true ∧ (fv l).ug = fv l ∧ (fv l).isSl = true ∧ (fv l).slen = l.length := by
    unfold fv
    split
    · rename_i h; subst h; exact ⟨rfl, rfl, rfl, rfl⟩
    · exact ⟨rfl, rfl, rfl, rfl⟩
  obtain ⟨v1, v2, v3, v4⟩ := hv
  intro n
  induction n with
  | zero =>
    intro i env hi h0 h1 h5
    refine li_go hm l25_0.eq_1 ?_
    have e : i = l.length := by omega
    subst e
    simp -implicitDefEqProofs [h0, h1, h5, v1, v2, v3, v4]
    exact hexit _
  | succ n ih =>
    intro i env hi h0 h1 h5
    refine li_go hm l25_0.eq_1 ?_
    have hlt : i < l.length := by omega
    have hne : l ≠ [] := fun e => by subst e; simp at hlt
    have w1 : IntKind.i64.wrap ((i : Int) + 1) = ((i + 1 : Nat) : Int) := wrap_succ (by omega)
    have e0 : fv l = .slc (fls l) l.length := if_neg hne
    rw [e0] at h0
    simp -implicitDefEqProofs [h0, h1, h5, fs, hlt, fls_at hlt, fls_min hlt, fls_ge hlt]
    rw [w1]
    exact ih (i + 1) _ (by omega) (by simp [e0]) (by simp [fs]) (by simp)
theorem ok25 {l : List Fl} (hl : l.length ≤ 1000000) : Ok Try.prog 25 [fv l, fs l] H (.ret (bl true)) H := by
  have hv : (fv l).vd = true ∧ (fv l).ug = fv l ∧ (fv l).isSl = true ∧ (fv l).slen = l.length := by
    unfold fv
    split
    · rename_i h; subst h; exact ⟨rfl, rfl, rfl, rfl⟩
    · exact ⟨rfl, rfl, rfl, rfl⟩
  obtain ⟨v1, v2, v3, v4⟩ := hv
  refine ok_fn hm Try.func25 c25 (by simp) fun hcl => ?_
  simp -implicitDefEqProofs [i25, r25, v1, v2, v3, v4, fs]
  refine loop25 (l := l) hl (fun env => ?_) l.length 0 _ (by omega) (by simp) (by simp [fs]) (by simp)
  simp -implicitDefEqProofs
  exact cv_id
theorem ok25n : Ok Try.prog 25 [nl, nl] H (.ret (bl true)) H := by
  refine ok_fn hm Try.func25 c25 (by simp) fun hcl => ?_
  simp -implicitDefEqProofs [i25, r25, nl_sl, nl_len]
  refine li_go hm l25_0.eq_1 ?_
  simp -implicitDefEqProofs [nl_sl, nl_len]
  exact cv_id
set_option maxRecDepth 10000 in
theorem loop24 {A : List (List Int)} (hA : A.length ≤ 1000) (hAl : ∀ l ∈ A, l.length ≤ 100000) {N : Nat} {K : XE → Env → List AO → Prop} (hexit : ∀ env, K (.exit 0) env H) :
    ∀ (n i : Nat) (env : Env), i + n = A.length → env.get 0 = .slc (A.map slN) A.length → env.get 1 = .slc (A.map slN) A.length → env.get 5 = i64 i → LI Try.prog N drawB l24_0 env H K := by
  intro n
  induction n with
  | zero =>
    intro i env hi h0 h1 h5
    refine li_go hm l24_0.eq_1 ?_
    have e : i = A.length := by omega
    subst e
    simp -implicitDefEqProofs [h0, h1, h5]
    exact hexit _
  | succ n ih =>
    intro i env hi h0 h1 h5
    refine li_go hm l24_0.eq_1 ?_
    have hlt : i < A.length := by omega
    have w1 : IntKind.i64.wrap ((i : Int) + 1) = ((i + 1 : Nat) : Int) := wrap_succ (by omega)
    simp -implicitDefEqProofs [h0, h1, h5, hlt, slN_at hlt]
    have hI : ∀ H, IsI H (slN A[i]) A[i] := fun H => by
      by_cases h : A[i] = []
      · rw [h]; exact nl_ints
      · rw [slN_ne h]; exact isc H _
    refine callq_go (fun _ => ok23s (hI H) (hI H) (by have := hAl _ (List.getElem_mem hlt); omega)) ?_
    simp -implicitDefEqProofs [h5]
    rw [w1]
    exact ih (i + 1) _ (by omega) (by simp [h0]) (by simp [h1]) (by simp)
theorem ok24 {A : List (List Int)} (hA : A.length ≤ 1000) (hAl : ∀ l ∈ A, l.length ≤ 100000) : Ok Try.prog 24 [.slc (A.map slN) A.length, .slc (A.map slN) A.length] H (.ret (bl true)) H := by
  refine ok_fn hm Try.func24 c24 (by simp) fun hcl => ?_
  simp -implicitDefEqProofs [i24, r24]
  refine loop24 (A := A) hA hAl (fun env => ?_) A.length 0 _ (by omega) (by simp) (by simp) (by simp)
  simp -implicitDefEqProofs
  exact cv_id
theorem ok24n : Ok Try.prog 24 [nl, nl] H (.ret (bl true)) H := by
  refine ok_fn hm Try.func24 c24 (by simp) fun hcl => ?_
  simp -implicitDefEqProofs [i24, r24, nl_sl, nl_len]
  refine li_go hm l24_0.eq_1 ?_
  simp -implicitDefEqProofs [nl_sl, nl_len]
  exact cv_id
end
end Go.Proofs.Ytiikfkacbglblaa
