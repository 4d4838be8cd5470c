/-
  Steps of the proof: contracts of functions and plain facts that the statement rests on.
-/
import Derived.Test.YtbfeaikiiamhaaaUG3
set_option linter.all false
namespace Go.Proofs.Ytbfeaikiiamhaaa.Rc
open Go.Ab
section
variable {A B : List AO} {c : Mc} {s : Ms}
set_option maxRecDepth 10000 in
theorem loop75 {info : Int} {N : Nat} {K : XE → Env → List AO → Prop} (hn : s.ns.length < 1000000)
    (hret : (∃ x ∈ s.ns, x.k = 2 ∧ x.i = info) → ∀ env, K .ret env (c.hp A B s))
    (hexit : (∀ x ∈ s.ns, ¬ (x.k = 2 ∧ x.i = info)) → ∀ env, env.get 0 = .ptr (.own (A.length + 1) 0 0 0 0) 0 → env.get 1 = i64 info → K (.exit 0) env (c.hp A B s)) :
    ∀ (n i : Nat) (env : Env), i + n = s.ns.length → (∀ j (h : j < s.ns.length), j < i → ¬ (s.ns[j].k = 2 ∧ s.ns[j].i = info)) → env.get 0 = .ptr (.own (A.length + 1) 0 0 0 0) 0 → env.get 1 = i64 info → env.get 6 = i64 i →
      LI Try.prog N drawB l57_0 env (c.hp A B s) K := by
  intro n
  induction n with
  | zero =>
    intro i env hi hj h0 h1 h6
    refine li_go hm' l57_0.eq_1 ?_
    have e : i = s.ns.length := by omega
    subst e
    simp -implicitDefEqProofs [h0, h1, h6, Mc.hp, Mc.M]
    exact hexit (fun x hx => by obtain ⟨j, hj', rfl⟩ := List.getElem_of_mem hx; exact hj j hj' hj') _ (by simp [h0]) (by simp [h1])
  | succ n ih =>
    intro i env hi hj h0 h1 h6
    refine li_go hm' l57_0.eq_1 ?_
    have hlt : i < s.ns.length := by omega
    have d := rws_at Nd.lenN hlt
    have d1 := rws_ge Nd.lenN hlt
    rw [Nd.cN] at d
    simp only [List.cons_append, List.nil_append] at d
    have d3 := rws_get Nd.lenN (t := 0) hlt (by omega)
    have d4 := rws_get Nd.lenN (t := 2) hlt (by omega)
    simp only [Nd.cN, List.getElem?_cons_zero, List.getElem?_cons_succ, Nat.add_zero] at d3 d4
    have w1 : IntKind.i64.wrap ((i : Int) + 1) = ((i + 1 : Nat) : Int) := wrap_succ (by omega)
    by_cases hp : s.ns[i].k = 2
    · by_cases hq : s.ns[i].i = info
      · simp -implicitDefEqProofs [h0, h1, h6, hlt, Mc.hp, Mc.M, Mc.N, d, d1, d3, d4, hp, hq]
        refine ⟨by omega, ?_⟩
        exact hret ⟨_, List.getElem_mem hlt, hp, hq⟩ _
      · simp -implicitDefEqProofs [h0, h1, h6, hlt, Mc.hp, Mc.M, Mc.N, d, d1, d3, d4, hp, hq]
        refine ⟨by omega, ?_⟩
        refine ih (i + 1) _ (by omega) (fun j h h' => ?_) ?_ ?_ ?_
        · by_cases e : j = i
          · subst e; simp [hq]
          · exact hj j h (by omega)
        all_goals simp [h0, h1, w1]
    · simp -implicitDefEqProofs [h0, h1, h6, hlt, Mc.hp, Mc.M, Mc.N, d, d1, d3, d4, hp]
      refine ih (i + 1) _ (by omega) (fun j h h' => ?_) ?_ ?_ ?_
      · by_cases e : j = i
        · subst e; simp [hp]
        · exact hj j h (by omega)
      all_goals simp [h0, h1, w1]
def Ms.cut (s : Ms) : Ms := { s with is := s.is.take (s.is.length - 1), vs := s.vs.take (s.vs.length - 1) }
def dropP (c : Mc) (A B : List AO) (s : Ms) (info pl : Int) (o : Out) (G' : List AO) : Prop :=
  o = .ret (.tup []) ∧ (((pl < 0 ∨ info ≠ s.is.length - 1 ∨ ∃ x ∈ s.ns, x.k = 2 ∧ x.i = info) ∧ G' = c.hp A B s) ∨
    (0 ≤ pl ∧ info = s.is.length - 1 ∧ (∀ x ∈ s.ns, ¬ (x.k = 2 ∧ x.i = info)) ∧ G' = c.hp A B s.cut))
set_option maxRecDepth 10000 in
theorem ok57 {info pl : Int} (hn : s.ns.length < 1000000) (hi : s.is.length < 1000000) (hi1 : 0 ≤ pl → 1 ≤ s.is.length) (hv : s.vs.length = s.is.length) :
    OkP Try.prog 57 [.ptr (.own (A.length + 1) 0 0 0 0) 0, i64 info, i64 pl] (c.hp A B s) (dropP c A B s info pl) := by
  refine okP_fn hm' Try.func57 c57 (by simp) fun hcl => ?_
  have w1 : IntKind.i64.wrap ((s.is.length : Int) - 1) = s.is.length - 1 := wrap_id (by omega) (by omega)
  by_cases hp : pl < 0
  · simp -implicitDefEqProofs [i57, r57, hp]
    exact ⟨_, _, ⟨rfl, .inl ⟨.inl hp, rfl⟩⟩, cv_id⟩
  · by_cases hq : info = s.is.length - 1
    · have ha : c.hp A B s = A ++ (c.D s :: c.M A.length s :: c.L :: Mc.V s :: Mc.N s :: Mc.I s :: B) := rfl
      rw [ha]
      simp -implicitDefEqProofs [i57, r57, hp, Mc.M, w1, hq]
      rw [← hq]
      refine loop75 (A := A) (B := B) (c := c) (s := s) (info := info) hn (fun hx env => ?_) (fun hx env g0 g1 => ?_) s.ns.length 0 _ (by omega) (fun j h h' => by omega) (by simp) (by simp) (by simp)
      · simp -implicitDefEqProofs
        exact ⟨_, _, ⟨rfl, .inl ⟨.inr (.inr hx), rfl⟩⟩, cv_id⟩
      · simp -implicitDefEqProofs [g0, g1, Mc.hp, Mc.M, hq, w1, hv, rws_len]
        refine ⟨by omega, _, _, ⟨rfl, .inr ⟨by omega, rfl, by rw [← hq]; exact hx, rfl⟩⟩, ?_⟩
        have e1 := cv_trunc (n0 := A.length + (B.length + 6)) (r := .tup []) (H := A ++ (c.D s :: c.M A.length s.cut :: c.L :: Mc.V s :: Mc.N s :: Mc.I s :: B)) (j := A.length + 3) (o := Mc.V s) (by simp) (by rw [List.getElem?_append_right (by omega)]; simp) rfl ((s.vs.length - 1) * 4)
        have e2 := cv_trunc (n0 := A.length + (B.length + 6)) (r := .tup []) (H := A ++ (c.D s :: c.M A.length s.cut :: c.L :: Mc.V s.cut :: Mc.N s :: Mc.I s :: B)) (j := A.length + 5) (o := Mc.I s) (by simp) (by rw [List.getElem?_append_right (by omega)]; simp) rfl ((s.is.length - 1) * 2)
        have t1 := rws_take Vw.len s.vs (s.vs.length - 1) (by omega)
        have t2 := rws_take icN_len s.is (s.is.length - 1) (by omega)
        have m1 : min (s.vs.length - 1) s.vs.length = s.vs.length - 1 := by omega
        have m2 : min (s.is.length - 1) s.is.length = s.is.length - 1 := by omega
        have e3 := Cv.trans (r2 := .tup []) (r3 := .tup []) (by simpa [Mc.hp, Mc.M, Mc.V, Mc.N, Mc.I, Mc.D, Ms.cut, t1, t2, m1, m2] using e1) (by simpa [Mc.hp, Mc.M, Mc.V, Mc.N, Mc.I, Mc.D, Ms.cut, t1, t2, m1, m2] using e2)
        simpa [Mc.hp, Mc.M, Mc.V, Mc.N, Mc.I, Mc.D, Ms.cut, t1, t2, m1, m2, hv] using e3
    · have ha : c.hp A B s = A ++ (c.D s :: c.M A.length s :: c.L :: Mc.V s :: Mc.N s :: Mc.I s :: B) := rfl
      rw [ha]
      simp -implicitDefEqProofs [i57, r57, hp, Mc.M, w1, hq]
      exact ⟨_, _, ⟨rfl, .inl ⟨.inr (.inl hq), rfl⟩⟩, cv_id⟩
end
end Go.Proofs.Ytbfeaikiiamhaaa.Rc

