/-
  Steps of the proof: contracts of functions and plain facts that the statement rests on.
-/
import Derived.Test.YtffafdbipfadoaaC7
set_option linter.all false
namespace Go.Proofs.Ytffafdbipfadoaa
open Go.Ab
section
variable {c : Ck} {x y : SV} {H : List AO}

theorem loop23 {l m : List Int} (hx : IsI H x l) (hy : IsI H y m) (hlm : l.length = m.length) (hl : l.length < 4611686018427387904) {N : Nat} {K : XE → Env → List AO → Prop}
    (hret : ∀ env, ¬ l = m → env.get 4 = bl false → K .ret env H) (hexit : l = m → ∀ env, K (.exit 0) env H) :
    ∀ (n i : Nat) (env : Env), i + n = l.length → (l.take i = m.take i) → env.get 0 = x → env.get 1 = y → env.get 5 = i64 i →
      LI Try.prog N drawB l23_0 env H K := by
  intro n
  induction n with
  | zero =>
    intro i env hi ha h0 h1 h5
    refine li_go hm l23_0.eq_1 ?_
    have e : i = l.length := by omega
    simp -implicitDefEqProofs [h0, h5, e, hx.vd, hx.ug, hx.sl, hx.len]
    refine hexit ?_ _
    rw [e, List.take_length, hlm, List.take_length] at ha
    exact ha
  | succ n ih =>
    intro i env hi ha h0 h1 h5
    refine li_go hm l23_0.eq_1 ?_
    have hlt : i < l.length := by omega
    have hlt' : i < m.length := by omega
    simp -implicitDefEqProofs [h0, h1, h5, hlt, hlt', hx.vd, hx.ug, hx.sl, hx.len, hx.v hlt, hx.ok hlt, hy.vd, hy.ug, hy.sl, hy.len, hy.v hlt', hy.ok hlt']
    split
    · rename_i he
      refine ih (i + 1) _ (by omega) ?_ (by simp [h0]) (by simp [h1]) (by simp [wrap_suc (show i < 9223372036854775807 by omega)])
      rw [List.take_succ_eq_append_getElem hlt, List.take_succ_eq_append_getElem hlt', ha, he]
    · rename_i he
      refine hret _ (fun e => he ?_) (by simp)
      subst e; rfl

theorem ok23 {l m : List Int} (hx : IsI H x l) (hy : IsI H y m) (hl : l.length < 4611686018427387904) : Ok Try.prog 23 [x, y] H (.ret (bl (decide (l = m)))) H := by
  refine ok_fn hm Try.func23 c23 (by simp) fun hcl => ?_
  simp -implicitDefEqProofs [i23, r23, hx.vd, hx.ug, hx.sl, hx.len, hy.vd, hy.ug, hy.sl, hy.len]
  by_cases h : l.length = m.length
  · simp -implicitDefEqProofs [h]
    refine loop23 hx hy h hl (fun env h1 h2 => ?_) (fun h1 env => ?_) l.length 0 _ (by omega) (by simp) (by simp) (by simp) (by simp)
    · simp [h1, h2]; exact cv_id
    · simp [h1]; exact cv_id
  · have e : ¬ l = m := fun e => h (by rw [e])
    simp -implicitDefEqProofs [h, show ¬ (l.length : Int) = m.length by omega, e]; exact cv_id

theorem Ck.eq_iff (a b : Ck) : a = b ↔ (a.L = b.L ∧ a.a = b.a ∧ a.f = b.f ∧ a.t = b.t ∧ a.s = b.s ∧ a.la = b.la ∧ a.fa = b.fa) := by
  cases a; cases b; simp
instance : DecidableEq Ck := fun a b => decidable_of_iff _ (Ck.eq_iff a b).symm
set_option maxRecDepth 10000 in
theorem ok12 {a b : Ck} (hx : IsI H x a.L) (hy : IsI H y b.L) (hl : a.L.length < 4611686018427387904) : Ok Try.prog 12 [ckx x a, ckx y b] H (.ret (bl (decide (a = b)))) H := by
  refine ok_fn hm Try.func12 c12 (by simp) fun hcl => ?_
  simp -implicitDefEqProofs [i12, r12, ckx, hx.cell, hy.cell]
  refine call_go (ok23 (hx.app _) (hy.app _) hl) ?_
  simp -implicitDefEqProofs
  refine cv_fz 1 hcl rfl ?_
  simp [Ck.eq_iff, Bool.and_assoc]
def c0 : Ck := ⟨[1000, 2000], 100, 50, -1, 0, 0, -1⟩
theorem ok24 : Ok Try.prog 24 [] H (.ret c0.sv) H := by
  refine ok_fn hm Try.func24 c24 (by simp) fun hcl => ?_
  simp -implicitDefEqProofs [i24, r24]
  refine call_go (ok11 (l := [1000, 2000]) (own1 (T := 3) rfl rfl) (by simp) 100 50) ?_
  have e : Ck.new [1000, 2000] 100 50 = (c0, 0) := by decide
  simp -implicitDefEqProofs [e, sv_eq]
  refine cv_fz 4 hcl rfl ?_
  simp [sv_eq]
theorem ok25 (hx : IsI H x c.L) (hl : c.L.length < 4611686018427387904) (now a b fa : Int) : Ok Try.prog 25 [ckx x c, i64 now, i64 a, i64 b, i64 fa] H (.ret (bl (decide (c.look now = ([a, b], fa, 0))))) H := by
  refine ok_fn hm Try.func25 c25 (by simp) fun hcl => ?_
  simp -implicitDefEqProofs [i25, r25, ckx, hx.cell]
  refine call_go (ok19 (hx.app _) hl now) ?_
  generalize hr : c.look now = r
  have hlen : r.1.length < 4611686018427387904 := by
    subst hr; unfold Ck.look; repeat' split
    all_goals simp [hl]
  obtain ⟨l, f, e⟩ := r
  by_cases h1 : e = 0
  · by_cases h2 : f = fa
    · simp -implicitDefEqProofs [lookV, h1, h2]
      refine callq_st (fun _ => ok23 (l := l) (m := [a, b]) (IsI.slc _ _) (own1 (T := 3) rfl rfl) hlen) ?_
      simp -implicitDefEqProofs
      refine cv_fz 1 hcl rfl ?_
      simp [h1, h2]
    · simp -implicitDefEqProofs [lookV, h1, h2]
      refine callq_off _ _ _ _ ?_
      simp -implicitDefEqProofs
      refine cv_fz 1 hcl rfl ?_
      simp [h2]
  · simp -implicitDefEqProofs [lookV, h1]
    refine callq_off _ _ _ _ ?_
    simp -implicitDefEqProofs
    refine cv_fz 1 hcl rfl ?_
    simp [h1]

def c1 : Ck := ⟨[1000, 2000], 100, 50, 0, 10, 10, -1⟩
theorem isv (c : Ck) (H : List AO) : IsI H (.slc (ints c.L) c.L.length) c.L := IsI.slc H c.L
set_option maxRecDepth 10000 in
theorem ok9 : Ok Try.prog 9 [] H (.ret (bl true)) H := by
  refine ok_fn hm Try.func9 c9 (by simp) fun hcl => ?_
  simp -implicitDefEqProofs [i9, r9]
  refine call_go (ok10 (l := [1000, 2000]) (own1 (H := H) (k := 0) (T := 3) rfl rfl) (by simp) 100 50) ?_
  have e : Ck.new [1000, 2000] 100 50 = (c0, 0) := by decide
  simp -implicitDefEqProofs [e, sv_eq]
  refine call_go ok24 ?_
  simp -implicitDefEqProofs
  refine call_go (ok15 (c := c0) (isv c0 _) (by decide) 0 10) ?_
  have e1 : c0.start 0 10 = (c1, 0) := by decide
  simp -implicitDefEqProofs [e1, sv_eq]
  refine call_go (ok21 (c := c1) (isv c1 _) (by decide)) ?_
  have e2 : c1.falls = (1061, 0) := by decide
  simp -implicitDefEqProofs [e2]
  refine callq_go (fun _ => ok24) ?_
  simp -implicitDefEqProofs
  refine callq_st (fun _ => ok12 (a := c0) (b := c0) (isv c0 _) (isv c0 _) (by decide)) ?_
  simp -implicitDefEqProofs [show c1.t = 0 from rfl, show c1.s = 10 from rfl]
  refine callq_st (fun _ => ok25 (c := c1) (isv c1 _) (by decide) 61 999 2000 (-1)) ?_
  have e3 : c1.look 61 = ([999, 2000], -1, 0) := by decide
  simp -implicitDefEqProofs [e3]
  exact cv_fz 1 hcl rfl (by simp)
end
end Go.Proofs.Ytffafdbipfadoaa
