/-
  Steps of the proof: contracts of functions and plain facts that the statement rests on.
-/
import Derived.Test.YtffafdbipfadoaaC1
set_option linter.all false
namespace Go.Proofs.Ytffafdbipfadoaa
open Go.Ab
section
variable {c : Ck} {x : SV} {H : List AO}

def rulesL : List SV := [.fn (.func 44) [] [], .fn (.func 45) [] [], .fn (.func 46) [] [], .fn (.func 47) [] [], .fn (.func 48) [] [], .fn (.func 49) [] [], .fn (.func 50) [] [], .fn (.func 51) [] []]
theorem ok33 : Ok Try.prog 33 [] H (.ret (.slc rulesL 8)) H := by
  refine ok_fn hm Try.func33 c33 (by simp) fun hcl => ?_
  simp [i33, r33]
  refine cv_fz 2 hcl rfl ?_
  simp [rulesL]

def Ck.chk (c : Ck) : Bool := (List.range 8).all c.rule

theorem ok_rule (hx : IsI H x c.L) (hl : c.L.length < 4611686018427387904) {i : Nat} (hi : i < 8) (hb : ∀ j < i, c.rule j = true) :
    OkC Try.prog (rulesL.getD i .any) [ckx x c] H (.ret (bl (c.rule i))) H := by
  have hf : 4 < i → c.fa < c.L.length := by
    intro h
    have := hb 4 h
    simp [Ck.rule, inR] at this
    omega
  match i, hi with
  | 0, _ => exact okC_go (ok44 hx hl)
  | 1, _ => exact okC_go (ok45 hx hl)
  | 2, _ => exact okC_go (ok46 hx)
  | 3, _ => exact okC_go (ok47 hx)
  | 4, _ => exact okC_go (ok48 hx hl)
  | 5, _ => exact okC_go (ok49 hx)
  | 6, _ => exact okC_go (ok50 hx)
  | 7, _ => exact okC_go (ok51 hx (hf (by omega)))

theorem fn_rule {i : Nat} (hi : i < 8) : ∃ k, rulesL.drop i = .fn (.func k) [] [] :: rulesL.drop (i + 1) ∧ rulesL.getD i .any = .fn (.func k) [] [] := by
  match i, hi with
  | 0, _ | 1, _ | 2, _ | 3, _ | 4, _ | 5, _ | 6, _ | 7, _ => exact ⟨_, rfl, rfl⟩

theorem loop13 (hx : IsI H x c.L) (hl : c.L.length < 4611686018427387904) {N : Nat} {K : XE → Env → List AO → Prop}
    (hret : ∀ env M, c.chk = false → env.get 2 = i64 13 → K .ret env (H ++ M)) (hexit : c.chk = true → ∀ env M, K (.exit 0) env (H ++ M)) :
    ∀ (n i : Nat) (env : Env) (M : List AO), i + n = 8 → (∀ j < i, c.rule j = true) → env.get 1 = .ptr (.own H.length 0 0 0 0) 0 → env.get 5 = .slc rulesL 8 → env.get 6 = i64 8 → env.get 7 = i64 i →
      LI Try.prog N drawB l13_0 env (H ++ ⟨[x, i64 c.a, i64 c.f, i64 c.t, i64 c.s, i64 c.la, i64 c.fa], 24, 0, true⟩ :: M) K := by
  intro n
  induction n with
  | zero =>
    intro i env M hi ha h1 h5 h6 h7
    refine li_go hm l13_0.eq_1 ?_
    have e : i = 8 := by omega
    subst e
    simp [h6, h7]
    refine hexit ?_ _ _
    simp only [Ck.chk, List.all_eq_true, List.mem_range]
    exact ha
  | succ n ih =>
    intro i env M hi ha h1 h5 h6 h7
    refine li_go hm l13_0.eq_1 ?_
    have hlt : i < 8 := by omega
    obtain ⟨k, hk, hk'⟩ := fn_rule hlt
    have hok : ∀ H', IsI H' x c.L → OkC Try.prog (.fn (.func k) [] []) [ckx x c] H' (.ret (bl (c.rule i))) H' := by
      intro H' h; rw [← hk']; exact ok_rule h hl hlt ha
    have hlen : rulesL.length = 8 := rfl
    simp -implicitDefEqProofs [h1, h5, h6, h7, show (i : Int) < 8 by omega, hk, hlen]
    refine ⟨_, _, hok _ (hx.app _), ?_⟩
    cases hr : c.rule i with
    | false =>
      simp -implicitDefEqProofs
      refine hret _ _ ?_ (by simp)
      cases hc : c.chk with
      | false => rfl
      | true =>
        simp only [Ck.chk, List.all_eq_true, List.mem_range] at hc
        rw [hc i hlt] at hr; cases hr
    | true =>
      simp -implicitDefEqProofs [h7]
      refine ih (i + 1) _ _ (by omega) ?_ ?_ ?_ ?_ ?_
      rotate_left
      · simp [h1]
      · simp [h5]
      · simp [h6]
      · simp [wrap_suc (show i < 9223372036854775807 by omega)]
      intro j hj
      by_cases e : j = i
      · subst e; exact hr
      · exact ha j (by omega)

theorem ok13 (hx : IsI H x c.L) (hl : c.L.length < 4611686018427387904) : Ok Try.prog 13 [ckx x c] H (.ret (i64 (if c.chk = true then 0 else 13))) H := by
  refine ok_fn hm Try.func13 c13 (by simp) fun hcl => ?_
  simp -implicitDefEqProofs [i13, r13, ckx, hx.vd, hx.ug, hx.sl, hx.len, hx.cell]
  refine call_go ok33 ?_
  simp -implicitDefEqProofs
  refine loop13 hx hl (fun env M h1 h2 => ?_) (fun h1 env M => ?_) 8 0 _ [] (by omega) (by simp) (by simp) (by simp) (by simp) (by simp)
  · simp [h1, h2]; exact cv_fz 1 hcl rfl (by simp)
  · simp [h1]; exact cv_fz 1 hcl rfl (by simp)
end
end Go.Proofs.Ytffafdbipfadoaa
