/-
  Steps of the proof: contracts of functions and plain facts that the statement rests on.
-/
import Derived.Test.YtffafdbipfadoaaC11
set_option linter.all false
namespace Go.Proofs.Ytffafdbipfadoaa
open Go.Ab
section
variable {H : List AO}
theorem loop27 {l : List Tk} (hn : l.length < 4611686018427387904) {r : Ck × Int × Int} {N : Nat} {K : XE → Env → List AO → Prop}
    (hret : ∀ env a M, r.2.1 ≠ 0 → env.get 4 = .ptr (.own (H.length + 1) 0 0 0 0) 0 → env.get 5 = .ptr (.own (H.length + 2) 0 0 0 0) 0 → K .ret env (H ++ a :: ⟨zc, 24, 0, true⟩ :: ⟨[i64 r.2.1, i64 r.2.2], 42, 0, true⟩ :: M))
    (hexit : ∀ env M, r.2 = (0, 0) → env.get 2 = .ptr (.own H.length 0 0 0 0) 0 → env.get 4 = .ptr (.own (H.length + 1) 0 0 0 0) 0 → env.get 5 = .ptr (.own (H.length + 2) 0 0 0 0) 0 →
      K (.exit 0) env (H ++ ⟨r.1.cells, 24, 0, true⟩ :: ⟨zc, 24, 0, true⟩ :: ⟨[i64 0, i64 0], 42, 0, true⟩ :: M)) :
    ∀ (n i : Nat) (c : Ck) (env : Env) (M : List AO), i + n = l.length → c.go (l.drop i) i = r → c.L.length < 4611686018427387904 → env.get 1 = tksv l → env.get 2 = .ptr (.own H.length 0 0 0 0) 0 →
      env.get 4 = .ptr (.own (H.length + 1) 0 0 0 0) 0 → env.get 5 = .ptr (.own (H.length + 2) 0 0 0 0) 0 → env.get 7 = i64 i →
      LI Try.prog N drawB l27_0 env (H ++ ⟨c.cells, 24, 0, true⟩ :: ⟨zc, 24, 0, true⟩ :: ⟨[i64 0, i64 0], 42, 0, true⟩ :: M) K := by
  intro n
  induction n with
  | zero =>
    intro i c env M hi hr hl h1 h2 h4 h5 h7
    refine li_go hm l27_0.eq_1 ?_
    have e : i = l.length := by omega
    subst e
    rw [List.drop_length] at hr
    simp -implicitDefEqProofs [h1, h7, tksv]
    subst hr
    exact hexit _ M rfl (by simp [h2]) (by simp [h4]) (by simp [h5])
  | succ n ih =>
    intro i c env M hi hr hl h1 h2 h4 h5 h7
    refine li_go hm l27_0.eq_1 ?_
    have hlt : i < l.length := by omega
    rw [go_at hlt] at hr
    simp -implicitDefEqProofs [h1, h2, h4, h5, h7, hlt, tksv, tks_drop hlt, tks_drop1 hlt, tks_drop2 hlt, tks_len, Ck.cells]
    have hh := fun H => ok16 (H := H) (c := c) (isv c _) hl l[i].p l[i].f
    simp only [ckx, sv_eq] at hh
    refine callq_go (fun _ => hh _) ?_
    simp -implicitDefEqProofs [sv_eq, hlt, tks_drop hlt, tks_drop1 hlt, tks_drop2 hlt, tks_len]
    have hsl := start_len (c := c) (p := l[i].p) (now := l[i].f) hl
    have ht : c.turn l[i] = if (c.start l[i].p l[i].f).2 ≠ 0 then (.z, (c.start l[i].p l[i].f).2) else (c.start l[i].p l[i].f).1.stop l[i].t := rfl
    rw [ht] at hr
    clear ht
    generalize c.start l[i].p l[i].f = s at hr hsl hh ⊢
    obtain ⟨s, se⟩ := s
    simp only at hh
    by_cases h : se = 0
    · subst h
      simp -implicitDefEqProofs [hlt, tks_drop hlt, tks_drop1 hlt, tks_drop2 hlt, tks_len]
      refine ⟨okC_go (hh _), ?_⟩
      have hh' := fun H => ok18 (H := H) (c := s) (isv s _) hsl l[i].t
      simp only [ckx, sv_eq] at hh'
      refine callq_go (fun _ => hh' _) ?_
      simp -implicitDefEqProofs [sv_eq]
      have htl := stop_len (c := s) (now := l[i].t) hsl
      simp only [ne_eq, not_true, if_false] at hr
      generalize s.stop l[i].t = t at hr htl ⊢
      obtain ⟨t, te⟩ := t
      by_cases h' : te = 0
      · subst h'
        simp -implicitDefEqProofs
        refine ih (i + 1) t _ _ (by omega) (by simpa using hr) htl ?_ ?_ ?_ ?_ ?_
        · simp [h1, tksv]
        · simp [h2]
        · simp [h4]
        · simp [h5]
        · simp [wrap_suc (show i < 9223372036854775807 by omega)]
      · simp -implicitDefEqProofs [h', zc]
        rw [if_pos h'] at hr
        subst hr
        refine hret _ _ _ h' ?_ ?_
        · simp [h4]
        · simp [h5]
    · simp -implicitDefEqProofs [h, zc]
      refine ⟨okC_go (hh _), ?_⟩
      simp only [ne_eq, h, not_false_eq_true, if_true] at hr
      subst hr
      refine hret _ _ _ h ?_ ?_
      · simp [h4]
      · simp [h5]
theorem ok27 {c : Ck} {l : List Tk} (hl : c.L.length < 4611686018427387904) : Ok Try.prog 27 [c.sv, tksv l] H (.ret (.tup [(c.run l).1.sv, .agg [i64 (c.run l).2.1, i64 (c.run l).2.2]])) H := by
  refine ok_fn hm Try.func27 c27 (by simp) fun hcl => ?_
  simp -implicitDefEqProofs [i27, r27, Ck.sv, ckx, tksv]
  refine call_go (ok14 (c := c) (isv c _) hl) ?_
  cases h0 : c.chk with
  | false =>
    simp -implicitDefEqProofs
    refine cv_fz 4 hcl rfl ?_
    simp [Ck.run, h0, sv_eq, Ck.z, ints]
  | true =>
    have hg := c.good.1 h0
    have g4 := hg.n4
    have g1 := hg.n1
    simp -implicitDefEqProofs
    split
    · rename_i h1
      refine cv_fz 4 hcl rfl ?_
      simp [Ck.run, h0, show 10000 < l.length by omega, sv_eq, Ck.z, ints]
    · rename_i h1
      refine call_go (ok32 (c := c) (isv c _) (by omega)) ?_
      simp -implicitDefEqProofs [ckx, mine, rowO]
      refine LI.give hcl 3 2 (o := ⟨ints c.L, 3, 0, true⟩) rfl rfl ?_
      simp -implicitDefEqProofs
      have hgo : (c.run l) = if (c.go l 0).2.1 ≠ 0 then (.z, (c.go l 0).2) else ((c.go l 0).1, 0, 0) := by
        simp only [Ck.run, h0, Bool.true_eq_false, if_false, show ¬ 10000 < l.length by omega]
      refine loop27 (l := l) (by omega) (r := c.go l 0) (fun env a M h0 h4 h5 => ?_) (fun env M h0 h2 h4 h5 => ?_) l.length 0 c _ [⟨[], 3, 1, false⟩] (by omega) (by simp) hl (by simp [tksv]) (by simp) (by simp) (by simp) (by simp)
      · simp -implicitDefEqProofs [h4, h5, zc]
        refine cv_fz 4 hcl rfl ?_
        simp [hgo, h0, sv_eq, Ck.z, ints]
      · simp -implicitDefEqProofs [h2, h4, h5, zc, Ck.cells]
        refine cv_fz 4 hcl rfl ?_
        simp [hgo, h0, sv_eq]
def tkOk (l : List Tk) : Prop := True
set_option maxRecDepth 10000 in
/-- ClockRuns. -/
theorem ok5 {c : Ck} {l : List Tk} : Ok Try.prog 5 [c.sv, tksv l] H (.ret (bl true)) H := by
  refine ok_fn hm Try.func5 c5 (by simp) fun hcl => ?_
  by_cases h1 : 20 < (c.L.length : Int)
  · simp -implicitDefEqProofs [i5, r5, Ck.sv, ckx, tksv, h1]
    refine call_go ok9 ?_
    simp -implicitDefEqProofs
    exact cv_fz 1 hcl rfl (by simp)
  by_cases h2 : 100 < (l.length : Int)
  · simp -implicitDefEqProofs [i5, r5, Ck.sv, ckx, tksv, h1, h2]
    refine call_go ok9 ?_
    simp -implicitDefEqProofs
    exact cv_fz 1 hcl rfl (by simp)
  have hl : c.L.length < 4611686018427387904 := by omega
  simp -implicitDefEqProofs [i5, r5, Ck.sv, ckx, tksv, h1, h2]
  refine call_go (ok26 (c := c) (l := l) hl) ?_
  simp -implicitDefEqProofs [sv_eq]
  refine call_go (ok27 (c := c) (l := l) hl) ?_
  simp -implicitDefEqProofs [sv_eq]
  have hrl : (c.run l).1.L.length < 4611686018427387904 := by
    unfold Ck.run; repeat' split
    all_goals first | exact go_len hl | simp [Ck.z]
  revert hrl
  generalize c.run l = r
  intro hrl
  obtain ⟨r, re, ri⟩ := r
  refine call_go (ok12 (a := r) (b := r) (isv r _) (isv r _) hrl) ?_
  simp -implicitDefEqProofs
  refine callq_go (fun _ => ok9) ?_
  simp -implicitDefEqProofs
  exact cv_fz 1 hcl rfl (by simp)
end
end Go.Proofs.Ytffafdbipfadoaa
