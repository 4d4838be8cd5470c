/-
  Steps of the proof: contracts of functions and plain facts that the statement rests on.
-/
import Derived.Test.YtffafdbipfadoaaC10
set_option linter.all false
namespace Go.Proofs.Ytffafdbipfadoaa
open Go.Ab
def Ck.cells (c : Ck) : List SV := [.slc (ints c.L) c.L.length, i64 c.a, i64 c.f, i64 c.t, i64 c.s, i64 c.la, i64 c.fa]
def zc : List SV := [.slc [] 0, i64 0, i64 0, i64 0, i64 0, i64 0, i64 0]
theorem go_at {c : Ck} {l : List Tk} {k : Nat} (h : k < l.length) : c.go (l.drop k) k = if (c.turn l[k]).2 ≠ 0 then (c, (c.turn l[k]).2, (k : Int)) else (c.turn l[k]).1.go (l.drop (k + 1)) (k + 1) := by
  rw [List.drop_eq_getElem_cons h, Ck.go]
section
variable {H : List AO}
theorem loop41 {l : List Tk} (hn : l.length < 4611686018427387904) {r : Ck × Int × Int} {N : Nat} {K : XE → Env → List AO → Prop}
    (hret : ∀ env a M, r.2.1 ≠ 0 → env.get 6 = .ptr (.own (H.length + 1) 0 0 0 0) 0 → env.get 7 = .ptr (.own (H.length + 2) 0 0 0 0) 0 → K .ret env (H ++ a :: ⟨r.1.cells, 24, 0, true⟩ :: ⟨[i64 r.2.1, i64 r.2.2], 42, 0, true⟩ :: M))
    (hexit : ∀ env M, r.2 = (0, 0) → env.get 3 = .ptr (.own H.length 0 0 0 0) 0 → env.get 6 = .ptr (.own (H.length + 1) 0 0 0 0) 0 → env.get 7 = .ptr (.own (H.length + 2) 0 0 0 0) 0 →
      K (.exit 0) env (H ++ ⟨r.1.cells, 24, 0, true⟩ :: ⟨zc, 24, 0, true⟩ :: ⟨[i64 0, i64 0], 42, 0, true⟩ :: M)) :
    ∀ (n i : Nat) (c : Ck) (env : Env) (M : List AO), i + n = l.length → c.go (l.drop i) i = r → c.L.length < 4611686018427387904 → env.get 2 = .fn (.func 42) [] [] → env.get 3 = .ptr (.own H.length 0 0 0 0) 0 →
      env.get 6 = .ptr (.own (H.length + 1) 0 0 0 0) 0 → env.get 7 = .ptr (.own (H.length + 2) 0 0 0 0) 0 → env.get 12 = tksv l → env.get 13 = i64 l.length → env.get 14 = i64 i →
      LI Try.prog N drawB l41_0 env (H ++ ⟨c.cells, 24, 0, true⟩ :: ⟨zc, 24, 0, true⟩ :: ⟨[i64 0, i64 0], 42, 0, true⟩ :: M) K := by
  intro n
  induction n with
  | zero =>
    intro i c env M hi hr hl h2 h3 h6 h7 h12 h13 h14
    refine li_go hm l41_0.eq_1 ?_
    have e : i = l.length := by omega
    subst e
    rw [List.drop_length] at hr
    simp -implicitDefEqProofs [h13, h14]
    subst hr
    exact hexit _ M rfl (by simp [h3]) (by simp [h6]) (by simp [h7])
  | succ n ih =>
    intro i c env M hi hr hl h2 h3 h6 h7 h12 h13 h14
    refine li_go hm l41_0.eq_1 ?_
    have hlt : i < l.length := by omega
    rw [go_at hlt] at hr
    simp -implicitDefEqProofs [h2, h3, h6, h7, h12, h13, h14, hlt, tksv, tks_drop hlt, tks_len, Ck.cells]

    refine call_go (ok42 (c := c) hl l[i]) ?_
    have htl := turn_len (c := c) (t := l[i]) hl
    revert hr htl
    generalize c.turn l[i] = t
    intro hr htl
    obtain ⟨t, te⟩ := t
    by_cases h : te = 0
    · subst h
      simp -implicitDefEqProofs [sv_eq]
      refine ih (i + 1) t _ _ (by omega) (by simpa using hr) htl ?_ ?_ ?_ ?_ ?_ ?_ ?_
      · simp [h2]
      · simp [h3]
      · simp [h6]
      · simp [h7]
      · simp [h12, tksv]
      · simp [h13]
      · simp [wrap_suc (show i < 9223372036854775807 by omega)]
    · simp -implicitDefEqProofs [sv_eq, h, zc]
      rw [if_pos h] at hr
      subst hr
      refine hret _ _ _ h ?_ ?_
      · simp [h6]
      · simp [h7]

theorem go_len {l : List Tk} : ∀ {c : Ck} {i : Nat}, c.L.length < 4611686018427387904 → (c.go l i).1.L.length < 4611686018427387904 := by
  induction l with
  | nil => intro c i h; exact h
  | cons t r ih =>
    intro c i h
    unfold Ck.go
    split
    · exact h
    · exact ih (turn_len h)
theorem under_cells (n : Nat) (c : Ck) : SV.underL n c.cells = true := by simp [Ck.cells]
theorem ok41 {c : Ck} {l : List Tk} (hl : c.L.length < 4611686018427387904) (hn : l.length < 4611686018427387904) : Ok Try.prog 41 [c.sv, tksv l, .fn (.func 42) [] []] H (.ret (.tup [(c.go l 0).1.sv, .agg [i64 (c.go l 0).2.1, i64 (c.go l 0).2.2]])) H := by
  refine ok_fn hm Try.func41 c41 (by simp) fun hcl => ?_
  simp -implicitDefEqProofs [i41, r41, Ck.sv, ckx, tksv]
  refine loop41 (l := l) hn (r := c.go l 0) (fun env a M h0 h6 h7 => ?_) (fun env M h0 h3 h6 h7 => ?_) l.length 0 c _ [] (by omega) (by simp) hl (by simp) (by simp) (by simp) (by simp) (by simp [tksv]) (by simp) (by simp)
  · simp -implicitDefEqProofs [h6, h7, Ck.cells]
    refine cv_fz 4 hcl rfl ?_
    simp [sv_eq]
  · simp -implicitDefEqProofs [h3, h6, h7, Ck.cells, zc]
    refine cv_fz 4 hcl rfl ?_
    simp [sv_eq, h0]
theorem ok26 {c : Ck} {l : List Tk} (hl : c.L.length < 4611686018427387904) : Ok Try.prog 26 [c.sv, tksv l] H (.ret (.tup [(c.run l).1.sv, .agg [i64 (c.run l).2.1, i64 (c.run l).2.2]])) H := by
  refine ok_fn hm Try.func26 c26 (by simp) fun hcl => ?_
  simp -implicitDefEqProofs [i26, r26, Ck.sv, ckx, tksv]
  refine call_go (ok13 (c := c) (isv c _) hl) ?_
  cases h0 : c.chk with
  | false =>
    simp -implicitDefEqProofs
    refine cv_fz 4 hcl rfl ?_
    simp [Ck.run, h0, sv_eq, Ck.z, ints]
  | true =>
    have hg := c.good.1 h0
    have g4 := hg.n4
    have g1 := hg.n1
    simp -implicitDefEqProofs
    split
    · rename_i h1
      refine cv_fz 4 hcl rfl ?_
      simp [Ck.run, h0, show 10000 < l.length by omega, sv_eq, Ck.z, ints]
    · rename_i h1
      refine call_go (ok31 (c := c) (isv c _) (by omega) (by omega)) ?_
      simp -implicitDefEqProofs [ckx, mine, rowO]
      refine call_give (H.length + 3) 2 (o := ⟨ints c.L, 3, 0, true⟩) (by simp) rfl (args' := [c.sv, tksv l, .fn (.func 42) [] []]) (by simp [sv_eq, tksv]) (ok41 (c := c) (l := l) hl (by omega)) ?_
      have hgo : (c.run l) = if (c.go l 0).2.1 ≠ 0 then (.z, (c.go l 0).2) else ((c.go l 0).1, 0, 0) := by
        simp only [Ck.run, h0, Bool.true_eq_false, if_false, show ¬ 10000 < l.length by omega]
      revert hgo
      generalize c.go l 0 = g
      intro hgo
      obtain ⟨g, ge, gi⟩ := g
      by_cases h : ge = 0
      · subst h
        simp -implicitDefEqProofs [sv_eq, Ck.cells, zc]
        refine cv_fz 4 hcl rfl ?_
        simp [hgo, sv_eq]
      · simp -implicitDefEqProofs [sv_eq, Ck.cells, zc, h]
        refine cv_fz 4 hcl rfl ?_
        simp [hgo, sv_eq, h, Ck.z, ints]
end
end Go.Proofs.Ytffafdbipfadoaa
