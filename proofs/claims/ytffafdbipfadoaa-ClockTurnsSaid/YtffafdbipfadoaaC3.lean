/-
  Steps of the proof: contracts of functions and plain facts that the statement rests on.
-/
import Derived.Test.YtffafdbipfadoaaC2
set_option linter.all false
namespace Go.Proofs.Ytffafdbipfadoaa
open Go.Ab
section
variable {c : Ck} {x : SV} {H : List AO}

theorem loop14 (hx : IsI H x c.L) (hl : c.L.length < 4611686018427387904) {N : Nat} {K : XE → Env → List AO → Prop} {B : AO} (hB : B = ⟨[x, i64 c.a, i64 c.f, i64 c.t, i64 c.s, i64 c.la, i64 c.fa], 24, 0, true⟩)
    (hret : ∀ env, c.rule 1 = false → env.get 2 = i64 13 → K .ret env (H ++ [B])) (hexit : c.rule 1 = true → ∀ env, env.get 1 = .ptr (.own H.length 0 0 0 0) 0 → K (.exit 0) env (H ++ [B])) :
    ∀ (n i : Nat) (env : Env), i + n = c.L.length → inR 0 1000000000 (c.L.drop i) = inR 0 1000000000 c.L → env.get 1 = .ptr (.own H.length 0 0 0 0) 0 → env.get 3 = i64 c.L.length → env.get 4 = i64 i →
      LI Try.prog N drawB l14_0 env (H ++ [B]) K := by
  subst hB
  intro n
  induction n with
  | zero =>
    intro i env hi ha h1 h3 h4
    refine li_go hm l14_0.eq_1 ?_
    have e : i = c.L.length := by omega
    simp -implicitDefEqProofs [h3, h4, e]
    refine hexit ?_ _ (by simp [h1])
    rw [e] at ha
    simpa [Ck.rule, inR] using ha.symm
  | succ n ih =>
    intro i env hi ha h1 h3 h4
    refine li_go hm l14_0.eq_1 ?_
    have hlt : i < c.L.length := by omega
    rw [List.drop_eq_getElem_cons hlt, inR_cons] at ha
    simp -implicitDefEqProofs [h1, h3, h4, hlt, hx.vd, hx.ug, hx.sl, hx.len, hx.vA _ hlt, hx.okA _ hlt]
    split
    · refine hret _ ?_ (by simp)
      simp only [Ck.rule]
      rw [← ha]; simp; omega
    · refine ih (i + 1) _ (by omega) ?_ (by simp [h1]) (by simp [h3]) (by simp [wrap_suc (show i < 9223372036854775807 by omega)])
      rw [← ha]; simp; omega

set_option maxRecDepth 20000 in
set_option maxHeartbeats 2000000 in
theorem ok14 (hx : IsI H x c.L) (hl : c.L.length < 4611686018427387904) : Ok Try.prog 14 [ckx x c] H (.ret (i64 (if c.chk = true then 0 else 13))) H := by
  refine ok_fn hm Try.func14 c14 (by simp) fun hcl => ?_
  simp -implicitDefEqProofs [i14, r14, ckx, hx.vd, hx.ug, hx.sl, hx.len, hx.cell]
  refine ⟨by omega, by omega, by omega, ?_⟩
  have hchk : c.chk = (c.rule 0 && c.rule 1 && c.rule 2 && c.rule 3 && c.rule 4 && c.rule 5 && c.rule 6 && c.rule 7) := by
    simp [Ck.chk, Bool.and_assoc]
  split
  · rename_i hc
    refine cv_fz 1 hcl rfl ?_
    have : c.chk = false := by
      rw [hchk]
      simp only [Bool.and_eq_false_imp, Ck.rule, inR, List.all_cons, List.all_nil, Bool.and_true, Bool.and_eq_true, decide_eq_true_eq, decide_eq_false_iff_not, Bool.or_eq_true, Bool.or_eq_false_iff]
      intros; omega
    simp [this]
  · rename_i hc
    refine loop14 hx hl rfl (fun env h1 h2 => ?_) (fun h1 env he => ?_) c.L.length 0 _ (by omega) (by simp) (by simp) (by simp) (by simp)
    · simp [h2]
      refine cv_fz 1 hcl rfl ?_
      simp [hchk, h1]
    · have hfa : c.fa < c.L.length := by omega
      by_cases h0 : 0 ≤ c.fa
      · have hk : c.fa.toNat < c.L.length := by omega
        simp -implicitDefEqProofs [he, h0, hfa, hx.vd, hx.ug, hx.sl, hx.len, hx.vA _ hk, hx.okA _ hk]
        have e7 : c.rule 7 = decide (c.L[c.fa.toNat] = 0) := by
          simp [Ck.rule, hk]; omega
        have e : c.chk = decide (c.L[c.fa.toNat] = 0) := by
          rw [hchk, e7, h1]
          cases decide (c.L[c.fa.toNat] = 0) with
          | false => simp
          | true =>
            simp only [Ck.rule, inR, List.all_cons, List.all_nil, Bool.and_true, Bool.and_eq_true, decide_eq_true_eq, Bool.or_eq_true]
            omega
        by_cases hz : c.L[c.fa.toNat] = 0
        · simp [hz, e]; exact cv_fz 1 hcl rfl (by simp)
        · simp [hz, e]; exact cv_fz 1 hcl rfl (by simp)
      · simp -implicitDefEqProofs [he, h0]
        have e : c.chk = true := by
          rw [hchk, h1]
          simp only [Ck.rule, inR, List.all_cons, List.all_nil, Bool.and_true, Bool.and_eq_true, decide_eq_true_eq, Bool.or_eq_true]
          omega
        simp [e]; exact cv_fz 1 hcl rfl (by simp)
end
end Go.Proofs.Ytffafdbipfadoaa
