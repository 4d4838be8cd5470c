/-
  Steps of the proof: contracts of functions and plain facts that the statement rests on.
-/
import Derived.Test.YtbfeaikiiamhaaaH_D2
set_option linter.all false
namespace Go.Proofs.Ytbfeaikiiamhaaa.Rc
open Go.Ab
theorem within_no {lo hi : Int} {l : List Int} (h : ∀ j (h : j < l.length), j < l.length → outR lo hi l[j] = false) : within lo hi l = 0 := by
  unfold within; rw [if_neg]
  rw [List.any_eq_true]
  rintro ⟨y, hy, h1⟩
  obtain ⟨j, hj, rfl⟩ := List.getElem_of_mem hy
  rw [h j hj hj] at h1; cases h1
theorem within_yes {lo hi : Int} {l : List Int} {j : Nat} (hj : j < l.length) (h : outR lo hi l[j] = true) : within lo hi l = 2 := by
  unfold within; rw [if_pos]
  exact List.any_eq_true.2 ⟨_, List.getElem_mem hj, h⟩
theorem within1 {lo hi n : Int} : within lo hi [n] = if n < lo ∨ hi < n then 2 else 0 := by
  unfold within; congr 1; simp [outR]
section
variable {x : Nd} {H : List AO} {q : Nat} {g : Gm}
theorem loop39_0 (hq : objCells H q 0 = [i64 x.k, i64 x.p, i64 x.i, .slc (ints x.nx) x.nx.length, .slc (ints x.ws) x.ws.length, .slc (ints x.ps) x.ps.length]) (hl : x.ws.length < 4611686018427387904) {N : Nat} {K : XE → Env → List AO → Prop}
    (hret : within 1 1000 x.ws = 2 → ∀ env, env.get 4 = i64 2 → K .ret env H) (hexit : within 1 1000 x.ws = 0 → ∀ env, K (.exit 1) env H) :
    ∀ (n i : Nat) (env : Env), i + n = x.ws.length → (∀ j (h : j < x.ws.length), j < i → outR 1 1000 x.ws[j] = false) → env.get 3 = .ptr (.own q 0 0 0 0) 0 → env.get 5 = i64 i → LI Try.prog N drawB l51_0 env H K := by
  intro n
  induction n with
  | zero =>
    intro i env hi hp h3 h5
    refine li_go hm l51_0.eq_1 ?_
    have e : i = x.ws.length := by omega
    subst e
    simp -implicitDefEqProofs [h3, h5, hq]
    exact hexit (within_no hp) _
  | succ n ih =>
    intro i env hi hp h3 h5
    refine li_go hm l51_0.eq_1 ?_
    have hlt : i < x.ws.length := by omega
    simp -implicitDefEqProofs [h3, h5, hq, hlt]
    split
    · rename_i hc
      refine ⟨by omega, by omega, ?_⟩
      exact hret (within_yes hlt (by simp [outR]; omega)) _ (by simp)
    · rename_i hc
      refine ⟨by omega, by omega, ?_⟩
      refine ih (i + 1) _ (by omega) ?_ ?_ ?_
      rotate_left
      · simp [h3]
      · simp [wrap_suc (show i < 9223372036854775807 by omega)]
      intro j hj hji
      by_cases e : j = i
      · subst e; simp [outR]; omega
      · exact hp j hj (by omega)
theorem loop39_1 (hq : objCells H q 0 = [i64 x.k, i64 x.p, i64 x.i, .slc (ints x.nx) x.nx.length, .slc (ints x.ws) x.ws.length, .slc (ints x.ps) x.ps.length]) (hl : x.ps.length < 4611686018427387904) {N : Nat} {K : XE → Env → List AO → Prop}
    (hret : within (-1000000) 1000000 x.ps = 2 → ∀ env, env.get 4 = i64 2 → K .ret env H) (hexit : within (-1000000) 1000000 x.ps = 0 → ∀ env, K (.exit 3) env H) :
    ∀ (n i : Nat) (env : Env), i + n = x.ps.length → (∀ j (h : j < x.ps.length), j < i → outR (-1000000) 1000000 x.ps[j] = false) → env.get 3 = .ptr (.own q 0 0 0 0) 0 → env.get 6 = i64 i → LI Try.prog N drawB l51_1 env H K := by
  intro n
  induction n with
  | zero =>
    intro i env hi hp h3 h5
    refine li_go hm l51_1.eq_1 ?_
    have e : i = x.ps.length := by omega
    subst e
    simp -implicitDefEqProofs [h3, h5, hq]
    exact hexit (within_no hp) _
  | succ n ih =>
    intro i env hi hp h3 h5
    refine li_go hm l51_1.eq_1 ?_
    have hlt : i < x.ps.length := by omega
    simp -implicitDefEqProofs [h3, h5, hq, hlt]
    split
    · rename_i hc
      refine ⟨by omega, by omega, ?_⟩
      exact hret (within_yes hlt (by simp [outR]; omega)) _ (by simp)
    · rename_i hc
      refine ⟨by omega, by omega, ?_⟩
      refine ih (i + 1) _ (by omega) ?_ ?_ ?_
      rotate_left
      · simp [h3]
      · simp [wrap_suc (show i < 9223372036854775807 by omega)]
      intro j hj hji
      by_cases e : j = i
      · subst e; simp [outR]; omega
      · exact hp j hj (by omega)
set_option maxRecDepth 10000 in
theorem ok51 (h1 : 1 ≤ g.pl) (h4 : g.pl ≤ 4) (h5 : g.is.length ≤ 200) : Ok Try.prog 51 [.agg g.cells, .agg x.cells] H (.ret (i64 (x.err g))) H := by
  refine ok_fn hm Try.func51 c51 (by simp [Nd.cells, sl, Gm.cells]) fun hcl => ?_
  by_cases k1 : x.k = 1
  · have e : x.err g = if (((((¬x.p = 0 ∨ ¬x.i = 0) ∨ 0 < x.ps.length) ∨ (x.nx.length : Int) < 1) ∨ 60 < (x.nx.length : Int)) ∨ ¬(x.ws.length : Int) = x.nx.length) then 3 else within 1 1000 x.ws := by
      unfold Nd.err Nd.chance
      rw [if_neg (by omega), if_pos k1]
      congr 1
      simp only [eq_iff_iff]; omega
    rw [e]
    simp -implicitDefEqProofs [i51, r51, Nd.cells, sl, Gm.cells, k1]
    split
    · exact cv_fz 1 hcl rfl (by simp)
    · refine loop39_0 (q := H.length + 1) (x := x) (by simp [k1]) (by omega) (fun e1 env e2 => ?_) (fun e1 env => ?_) x.ws.length 0 _ (by omega) (by omega) (by simp) (by simp)
      · simp -implicitDefEqProofs [e1, e2]
        exact cv_fz 1 hcl rfl (by simp)
      · simp -implicitDefEqProofs [e1]
        exact cv_fz 1 hcl rfl (by simp)
  by_cases k2 : x.k = 2
  · have e : x.err g = if (((0 < x.ps.length ∨ 0 < x.ws.length) ∨ (x.nx.length : Int) < 1) ∨ 10 < (x.nx.length : Int)) then 3 else if ((x.p < 0 ∨ g.pl ≤ x.p) ∨ x.i < 0) ∨ g.is.length ≤ x.i then 2 else 0 := by
      unfold Nd.err Nd.move
      rw [if_neg (by omega), if_neg k1, if_pos k2]
      rw [within1, within1]
      by_cases hA : 0 < x.ws.length ∨ 0 < x.ps.length ∨ x.nx.length < 1 ∨ 10 < x.nx.length
      · rw [if_pos hA, if_pos (by omega)]
      · rw [if_neg hA, if_neg (show ¬ (((0 < x.ps.length ∨ 0 < x.ws.length) ∨ (x.nx.length : Int) < 1) ∨ 10 < (x.nx.length : Int)) by omega)]
        by_cases hp : x.p < 0 ∨ g.pl - 1 < x.p
        · rw [if_pos hp, if_pos (by decide), if_pos (by omega)]
        · rw [if_neg hp, if_neg (by decide)]
          by_cases hi : x.i < 0 ∨ g.is.length - 1 < x.i
          · rw [if_pos hi, if_pos (by omega)]
          · rw [if_neg hi, if_neg (by omega)]
    rw [e]
    simp -implicitDefEqProofs [i51, r51, Nd.cells, sl, Gm.cells, k1, k2]
    split
    · exact cv_fz 1 hcl rfl (by simp)
    · split
      · exact cv_fz 1 hcl rfl (by simp)
      · exact cv_fz 1 hcl rfl (by simp)
  by_cases k3 : x.k = 3
  · have e : x.err g = if ((((¬x.p = 0 ∨ ¬x.i = 0) ∨ 0 < x.nx.length) ∨ 0 < x.ws.length) ∨ ¬(x.ps.length : Int) = g.pl) then 3 else within (-1000000) 1000000 x.ps := by
      unfold Nd.err Nd.end
      rw [if_neg (by omega), if_neg k1, if_neg k2]
      congr 1
      simp only [eq_iff_iff]; omega
    rw [e]
    simp -implicitDefEqProofs [i51, r51, Nd.cells, sl, Gm.cells, k3]
    split
    · exact cv_fz 1 hcl rfl (by simp)
    · refine loop39_1 (q := H.length + 1) (x := x) (by simp [k3]) (by omega) (fun e1 env e2 => ?_) (fun e1 env => ?_) x.ps.length 0 _ (by omega) (by omega) (by simp) (by simp)
      · simp -implicitDefEqProofs [e1, e2]
        exact cv_fz 1 hcl rfl (by simp)
      · simp -implicitDefEqProofs [e1]
        exact cv_fz 1 hcl rfl (by simp)
  have e : x.err g = 3 := by
    unfold Nd.err
    rw [if_pos (by omega)]
  rw [e]
  simp -implicitDefEqProofs [i51, r51, Nd.cells, sl, Gm.cells, k1, k2, k3]
  exact cv_fz 1 hcl rfl (by simp)
end
end Go.Proofs.Ytbfeaikiiamhaaa.Rc

