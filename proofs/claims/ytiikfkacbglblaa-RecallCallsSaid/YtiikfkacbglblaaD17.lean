/-
  Steps of the proof: contracts of functions and plain facts that the statement rests on.
-/
import Derived.Test.YtiikfkacbglblaaD12
set_option linter.all false
namespace Go.Proofs.Ytiikfkacbglblaa
open Go.Ab
def gi (l : List Int) (i : Nat) : Int := l.getD i 0
/-- What is told of a node's children. -/
structure Nf (ns : List Nd) (s : W3) (i : Nat) (x : Nd) : Prop where
  ch : ∀ j ∈ x.nx, (i : Int) < j ∧ j < ns.length ∧ gi s.P j.toNat = i ∧ gi s.D j.toNat = gi s.D i + 1
  inc : x.nx.Pairwise (· < ·)
  la : gi s.L i = match x.nx.getLast? with | none => (i : Int) | some j => gi s.L j.toNat
/-- A node is a child of its parent. -/
def Pf (ns : List Nd) (s : W3) (i : Nat) : Prop := ∃ (p : Nat) (x : Nd), gi s.P i = p ∧ p < i ∧ ns[p]? = some x ∧ (i : Int) ∈ x.nx
def Fr (s t : W3) (a b : Nat) : Prop := ∀ i, (i < a ∨ b ≤ i) → gi t.P i = gi s.P i ∧ gi t.D i = gi s.D i ∧ gi t.L i = gi s.L i
structure Kf (ns : List Nd) (at' : Nat) (dep : Int) (l : List Int) (r0 r : Nat) (s t : W3) : Prop where
  nf : ∀ i x, r0 ≤ i → i < r → ns[i]? = some x → Nf ns t i x
  pf : ∀ i, r0 ≤ i → i < r → ((i : Int) ∈ l ∧ gi t.P i = at') ∨ (∃ (p : Nat) (x : Nd), gi t.P i = p ∧ r0 ≤ p ∧ p < i ∧ ns[p]? = some x ∧ (i : Int) ∈ x.nx)
  ch : ∀ j ∈ l, (r0 : Int) ≤ j ∧ j < r ∧ gi t.P j.toNat = at' ∧ gi t.D j.toNat = dep + 1
  inc : l.Pairwise (· < ·)
  nil : l = [] → r = r0
  la : ∀ j, l.getLast? = some j → gi t.L j.toNat = (r : Int) - 1
  fr : Fr s t r0 r
structure Wf (ns : List Nd) (par dep : Int) (k r : Nat) (s t : W3) : Prop where
  nf : ∀ i x, k ≤ i → i < r → ns[i]? = some x → Nf ns t i x
  pf : ∀ i, k < i → i < r → ∃ (p : Nat) (x : Nd), gi t.P i = p ∧ k ≤ p ∧ p < i ∧ ns[p]? = some x ∧ (i : Int) ∈ x.nx
  p : gi t.P k = par
  d : gi t.D k = dep
  l : gi t.L k = (r : Int) - 1
  fr : Fr s t k r
theorem Fr.trans {s t u : W3} {a b c d : Nat} (h : Fr s t a b) (h' : Fr t u c d) (h1 : a ≤ c) (h2 : b ≤ d) : Fr s u a d := by
  intro i hi
  have e1 := h i (by omega)
  have e2 := h' i (by omega)
  exact ⟨e2.1.trans e1.1, e2.2.1.trans e1.2.1, e2.2.2.trans e1.2.2⟩
/-- Facts of nodes below stay. -/
theorem Nf.keep {ns : List Nd} {s t : W3} {i a b : Nat} {x : Nd} (h : Nf ns s i x) (hf : Fr s t a b) (hi : i < a) (hx : ∀ j ∈ x.nx, j < a) : Nf ns t i x := by
  have hn : ∀ j ∈ x.nx, j.toNat < a := fun j hj => by have := hx j hj; have := (h.ch j hj).1; omega
  refine ⟨fun j hj => ?_, h.inc, ?_⟩
  · have h1 := h.ch j hj
    have h2 := hf j.toNat (.inl (hn j hj))
    have h3 := hf i (.inl hi)
    exact ⟨h1.1, h1.2.1, h2.1.trans h1.2.2.1, by rw [h2.2.1, h3.2.1]; exact h1.2.2.2⟩
  · rw [(hf i (.inl hi)).2.2, h.la]
    cases hl : x.nx.getLast? with
    | none => rfl
    | some j => exact (hf j.toNat (.inl (hn j (List.mem_of_getLast? hl)))).2.2.symm
theorem kids_facts {ns : List Nd} {at' : Nat} {dep : Int} {w : Nat → W3 → Option Nat × W3} (hok : ∀ r s, s.ok ns.length → (w r s).2.ok ns.length ∧ ∀ r', (w r s).1 = some r' → r < r' ∧ r' ≤ ns.length)
    (hw : ∀ r s r', s.ok ns.length → (w r s).1 = some r' → Wf ns at' (dep + 1) r r' s (w r s).2 ∧ (∀ i x, r ≤ i → i < r' → ns[i]? = some x → ∀ j ∈ x.nx, j < r')) :
    ∀ (l : List Int) (r0 : Nat) (s : W3) (r : Nat), s.ok ns.length → (kids w l r0 s).1 = some r → Kf ns at' dep l r0 r s (kids w l r0 s).2 ∧ r0 ≤ r ∧ (∀ i x, r0 ≤ i → i < r → ns[i]? = some x → ∀ j ∈ x.nx, j < r)
  | [], r0, s, r, hs, h => by
    simp only [kids, Option.some.injEq] at h
    subst h
    exact ⟨⟨fun i x h1 h2 => by omega, fun i h1 h2 => by omega, fun j hj => by simp at hj, .nil, fun _ => rfl, fun j hj => by simp at hj, fun i _ => ⟨rfl, rfl, rfl⟩⟩, Nat.le_refl _, fun i x h1 h2 => by omega⟩
  | c :: cs, r0, s, r, hs, h => by
    unfold kids at h ⊢
    by_cases hc : c = r0
    · rw [if_pos hc] at h ⊢
      have hk := hok r0 s hs
      have hf := hw r0 s
      cases hh : w r0 s with
      | mk o s1 =>
        rw [hh] at h hk hf
        cases o with
        | none => simp at h
        | some r1 =>
          simp only at h ⊢
          obtain ⟨f1, f1b⟩ := hf r1 hs rfl
          have b1 := hk.2 r1 rfl
          obtain ⟨f2, f2l, f2b⟩ := kids_facts hok hw cs r1 s1 r hk.1 h
          generalize (kids w cs r1 s1).2 = t at f2
          refine ⟨⟨fun i x h1 h2 hx => ?_, fun i h1 h2 => ?_, fun j hj => ?_, ?_, (fun e => by cases e), fun j hj => ?_, ?_⟩, by omega, fun i x h1 h2 hx j hj => ?_⟩
          · by_cases hi : i < r1
            · exact (f1.nf i x h1 hi hx).keep f2.fr hi (f1b i x h1 hi hx)
            · exact f2.nf i x (by omega) h2 hx
          · by_cases hi : i < r1
            · by_cases he : i = r0
              · subst he
                exact .inl ⟨by rw [hc]; exact List.mem_cons_self, by rw [(f2.fr i (.inl hi)).1]; exact f1.p⟩
              · obtain ⟨p, x, k1, k2, k3, k4, k5⟩ := f1.pf i (by omega) hi
                exact .inr ⟨p, x, by rw [(f2.fr i (.inl hi)).1]; exact k1, k2, k3, k4, k5⟩
            · rcases f2.pf i (by omega) h2 with ⟨k1, k2⟩ | ⟨p, x, k1, k2, k3, k4, k5⟩
              · exact .inl ⟨List.mem_cons_of_mem _ k1, k2⟩
              · exact .inr ⟨p, x, k1, by omega, k3, k4, k5⟩
          · rcases List.mem_cons.1 hj with rfl | hj
            · have e : j.toNat = r0 := by omega
              refine ⟨by omega, by omega, ?_, ?_⟩
              · rw [e, (f2.fr r0 (.inl b1.1)).1]; exact f1.p
              · rw [e, (f2.fr r0 (.inl b1.1)).2.1]; exact f1.d
            · have := f2.ch j hj
              exact ⟨by omega, this.2.1, this.2.2⟩
          · refine .cons (fun j hj => ?_) f2.inc
            have := (f2.ch j hj).1
            omega
          · cases cs with
            | nil =>
              simp only [List.getLast?_singleton, Option.some.injEq] at hj
              subst hj
              have hr := f2.nil rfl
              have e : c.toNat = r0 := by omega
              rw [e, (f2.fr r0 (.inl b1.1)).2.2, f1.l, hr]
            | cons c' cs' =>
              rw [List.getLast?_cons_cons] at hj
              exact f2.la j hj
          · exact f1.fr.trans f2.fr (by omega) (by omega)
          · by_cases hi : i < r1
            · have := f1b i x h1 hi hx j hj; omega
            · exact f2b i x (by omega) h2 hx j hj
    · rw [if_neg hc] at h
      simp at h
theorem gi_set_ne {l : List Int} {i k : Nat} {v : Int} (h : i ≠ k) : gi (l.set k v) i = gi l i := getD_set_ne h
theorem gi_set_eq {l : List Int} {k : Nat} {v : Int} (h : k < l.length) : gi (l.set k v) k = v := getD_set_eq h
theorem walk_facts {ns : List Nd} : ∀ (f : Nat) (par dep : Int) (k : Nat) (s : W3) (r : Nat), s.ok ns.length → (walkS ns f par dep k s).1 = some r →
    Wf ns par dep k r s (walkS ns f par dep k s).2 ∧ (∀ i x, k ≤ i → i < r → ns[i]? = some x → ∀ j ∈ x.nx, j < r)
  | 0, par, dep, k, s, r, hs, h => by simp [walkS] at h
  | f + 1, par, dep, k, s, r, hs, h => by
    unfold walkS at h ⊢
    cases hk : ns[k]? with
    | none => rw [hk] at h; simp at h
    | some x =>
      rw [hk] at h
      have hlt := getElem?_lt hk
      have hs' : W3.ok ⟨s.P.set k par, s.D.set k dep, s.L⟩ ns.length := ⟨by simpa using hs.1, by simpa using hs.2.1, hs.2.2⟩
      have hkf := kids_facts (ns := ns) (at' := k) (dep := dep) (w := walkS ns f k (dep + 1)) (fun r s hs => walkS_ok f k (dep + 1) r s hs) (fun r s r' hs h => walk_facts f k (dep + 1) r s r' hs h) x.nx (k + 1) ⟨s.P.set k par, s.D.set k dep, s.L⟩
      have hko := kids_ok (n := ns.length) (w := walkS ns f k (dep + 1)) (m := 0) (fun r s _ hs => walkS_ok f k (dep + 1) r s hs) x.nx (k + 1) ⟨s.P.set k par, s.D.set k dep, s.L⟩ (by omega) (by omega) hs'
      simp only at h ⊢
      cases hh : kids (walkS ns f k (dep + 1)) x.nx (k + 1) ⟨s.P.set k par, s.D.set k dep, s.L⟩ with
      | mk o s1 =>
        rw [hh] at h hkf hko
        cases o with
        | none => simp at h
        | some r1 =>
          simp only [Option.some.injEq] at h
          subst h
          obtain ⟨kf, kle, kb⟩ := hkf r1 hs' rfl
          have hL : s1.L.length = ns.length := hko.1.2.2
          have hPk : gi s1.P k = par := by rw [(kf.fr k (.inl (by omega))).1]; exact gi_set_eq (by have := hs.1; omega)
          have hDk : gi s1.D k = dep := by rw [(kf.fr k (.inl (by omega))).2.1]; exact gi_set_eq (by have := hs.2.1; omega)
          have hLk : gi (s1.L.set k ((r1 : Int) - 1)) k = (r1 : Int) - 1 := gi_set_eq (by omega)
          have hLo : ∀ i, i ≠ k → gi (s1.L.set k ((r1 : Int) - 1)) i = gi s1.L i := fun i hi => gi_set_ne hi
          have hb : ∀ i y, k ≤ i → i < r1 → ns[i]? = some y → ∀ j ∈ y.nx, j < (r1 : Int) := fun i y h1 h2 hy j hj => by
            by_cases he : i = k
            · subst he
              rw [hk] at hy; cases hy
              exact (kf.ch j hj).2.1
            · exact kb i y (by omega) h2 hy j hj
          refine ⟨⟨fun i y h1 h2 hy => ?_, fun i h1 h2 => ?_, hPk, hDk, hLk, ?_⟩, hb⟩
          · by_cases he : i = k
            · subst he
              rw [hk] at hy; cases hy
              refine ⟨fun j hj => ?_, kf.inc, ?_⟩
              · have := kf.ch j hj
                exact ⟨by omega, by have := this.2.1; have := (hko.2 r1 rfl).2; omega, this.2.2.1, by rw [this.2.2.2]; show _ = gi s1.D i + 1; rw [hDk]⟩
              · show gi (s1.L.set i ((r1 : Int) - 1)) i = _
                rw [hLk]
                cases hl : x.nx.getLast? with
                | none =>
                  have : x.nx = [] := List.getLast?_eq_none_iff.1 hl
                  have := kf.nil this
                  simp only; omega
                | some j =>
                  have h3 := kf.ch j (List.mem_of_getLast? hl)
                  show _ = gi (s1.L.set i ((r1 : Int) - 1)) j.toNat
                  rw [hLo j.toNat (by omega), kf.la j hl]
            · have hn := kf.nf i y (by omega) h2 hy
              refine ⟨hn.ch, hn.inc, ?_⟩
              show gi (s1.L.set k ((r1 : Int) - 1)) i = _
              rw [hLo i he, hn.la]
              cases hl : y.nx.getLast? with
              | none => rfl
              | some j =>
                have h3 := hn.ch j (List.mem_of_getLast? hl)
                show _ = gi (s1.L.set k ((r1 : Int) - 1)) j.toNat
                rw [hLo j.toNat (by omega)]
          · rcases kf.pf i (by omega) h2 with ⟨k1, k2⟩ | ⟨p, y, k1, k2, k3, k4, k5⟩
            · exact ⟨k, x, k2, Nat.le_refl _, h1, hk, k1⟩
            · exact ⟨p, y, k1, by omega, k3, k4, k5⟩
          · intro i hi
            have h3 := kf.fr i (by omega)
            refine ⟨?_, ?_, ?_⟩
            · show gi s1.P i = _; rw [h3.1]; exact gi_set_ne (by omega)
            · show gi s1.D i = _; rw [h3.2.1]; exact gi_set_ne (by omega)
            · show gi (s1.L.set k ((r1 : Int) - 1)) i = _; rw [hLo i (by omega)]; exact h3.2.2
end Go.Proofs.Ytiikfkacbglblaa
