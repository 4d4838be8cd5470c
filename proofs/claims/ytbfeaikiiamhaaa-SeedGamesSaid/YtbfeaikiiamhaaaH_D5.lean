/-
  Steps of the proof: contracts of functions and plain facts that the statement rests on.
-/
import Derived.Test.YtbfeaikiiamhaaaH_D4
set_option linter.all false
namespace Go.Proofs.Ytbfeaikiiamhaaa.Rc
open Go.Ab
def resW (ns : List Nd) : Option Nat → SV
  | none => .tup [.val (.slice none 0 0), bl false]
  | some r => .tup [.slc (nds (ns.drop r)) (ns.length - r), bl true]
def W3.ok (s : W3) (n : Nat) : Prop := s.P.length = n ∧ s.D.length = n ∧ s.L.length = n
theorem kids_ok {n : Nat} {w : Nat → W3 → Option Nat × W3} {m : Nat} (hw : ∀ r s, m ≤ r → s.ok n → (w r s).2.ok n ∧ ∀ r', (w r s).1 = some r' → r < r' ∧ r' ≤ n) :
    ∀ (l : List Int) (r : Nat) (s : W3), m ≤ r → r ≤ n → s.ok n → (kids w l r s).2.ok n ∧ ∀ r', (kids w l r s).1 = some r' → r ≤ r' ∧ r' ≤ n
  | [], r, s, hr, hn, hs => ⟨hs, fun r' h => by simp [kids] at h; omega⟩
  | c :: cs, r, s, hr, hn, hs => by
    unfold kids
    by_cases hc : c = r
    · rw [if_pos hc]
      have h := hw r s hr hs
      cases hh : w r s with
      | mk o s1 =>
        rw [hh] at h
        cases o with
        | none => exact ⟨h.1, fun r' h' => by simp at h'⟩
        | some r1 =>
          have h1 := h.2 r1 rfl
          have h2 := kids_ok hw cs r1 s1 (by omega) h1.2 h.1
          exact ⟨h2.1, fun r' h' => by have := h2.2 r' h'; omega⟩
    · rw [if_neg hc]
      exact ⟨hs, fun r' h => by simp at h⟩
theorem walkS_ok {ns : List Nd} : ∀ (f : Nat) (par dep : Int) (k : Nat) (s : W3), s.ok ns.length →
    (walkS ns f par dep k s).2.ok ns.length ∧ ∀ r, (walkS ns f par dep k s).1 = some r → k < r ∧ r ≤ ns.length
  | 0, par, dep, k, s, hs => ⟨hs, fun r h => by simp [walkS] at h⟩
  | f + 1, par, dep, k, s, hs => by
    unfold walkS
    cases hk : ns[k]? with
    | none => exact ⟨hs, fun r h => by simp at h⟩
    | some x =>
      have hlt := getElem?_lt hk
      have h := kids_ok (n := ns.length) (w := walkS ns f k (dep + 1)) (m := 0) (fun r s _ hs => walkS_ok f k (dep + 1) r s hs) x.nx (k + 1) ⟨s.P.set k par, s.D.set k dep, s.L⟩ (by omega) (by omega)
        ⟨by simpa using hs.1, by simpa using hs.2.1, hs.2.2⟩
      simp only
      cases hh : kids (walkS ns f k (dep + 1)) x.nx (k + 1) ⟨s.P.set k par, s.D.set k dep, s.L⟩ with
      | mk o s1 =>
        rw [hh] at h
        cases o with
        | none => exact ⟨h.1, fun r' h' => by simp at h'⟩
        | some r1 =>
          refine ⟨⟨h.1.1, h.1.2.1, by simpa using h.1.2.2⟩, fun r' h' => ?_⟩
          have := h.2 r1 rfl
          simp at h'; omega
section
variable {H : List AO} {a b c j : Nat} {g : Gm}
/-- The walker and its rows. -/
structure Wh (H : List AO) (j : Nat) (g : Gm) (a b c : Nat) : Prop where
  w : Wk H j g (.own a 0 g.ns.length 1 1) (.own b 0 g.ns.length 1 1) (.own c 0 g.ns.length 1 1)
  p : P3 H a b c
  ja : j ≠ a
  jb : j ≠ b
  jc : j ≠ c
  n : g.ns.length ≤ 2000
  nx : ∀ x ∈ g.ns, x.nx.length < 4611686018427387904
theorem Wh.cells (h : Wh H j g a b c) (s : W3) : objCells (upd H a b c s) j 0 = [i64 g.pl, .slc (nds g.ns) g.ns.length, .slc (infs g.is) g.is.length, .own a 0 g.ns.length 1 1, .own b 0 g.ns.length 1 1, .own c 0 g.ns.length 1 1] := by
  rw [upd_o h.ja h.jb h.jc]; exact h.w.o
set_option maxRecDepth 10000 in
theorem loop62 (h : Wh H j g a b c) {x : Nd} {dep : Int} {k : Nat} {w : Nat → W3 → Option Nat × W3} {R : Option Nat × W3} (hd0 : 0 ≤ dep) (hd1 : dep ≤ k) (hk : k < g.ns.length) (hnx : x.nx.length < 4611686018427387904)
    (hok : ∀ r s, k + 1 ≤ r → r ≤ g.ns.length → s.ok g.ns.length → Ok Try.prog 60 [.ptr (.own j 0 0 0 0) 0, i64 k, i64 (dep + 1), .slc (nds (g.ns.drop r)) (g.ns.length - r)] (upd H a b c s) (.ret (resW g.ns (w r s).1)) (upd H a b c (w r s).2))
    (hw : ∀ r s, k + 1 ≤ r → s.ok g.ns.length → (w r s).2.ok g.ns.length ∧ ∀ r', (w r s).1 = some r' → r < r' ∧ r' ≤ g.ns.length)
    {N : Nat} {K : XE → Env → List AO → Prop}
    (hret : R.1 = none → ∀ env, env.get 8 = .val (.slice none 0 0) → env.get 9 = bl false → K .ret env (upd H a b c R.2))
    (hexit : ∀ r', R.1 = some r' → r' ≤ g.ns.length → R.2.ok g.ns.length → ∀ env, env.get 0 = .ptr (.own j 0 0 0 0) 0 → env.get 10 = i64 k → env.get 11 = .slc (nds (g.ns.drop r')) (g.ns.length - r') → K (.exit 0) env (upd H a b c R.2)) :
    ∀ (m i r : Nat) (s : W3) (env : Env), i + m = x.nx.length → k + 1 ≤ r → r ≤ g.ns.length → s.ok g.ns.length → kids w (x.nx.drop i) r s = R →
      env.get 0 = .ptr (.own j 0 0 0 0) 0 → env.get 2 = i64 dep → env.get 10 = i64 k → env.get 11 = .slc (nds (g.ns.drop r)) (g.ns.length - r) → env.get 46 = .slc (ints x.nx) x.nx.length → env.get 47 = i64 x.nx.length → env.get 48 = i64 i →
      LI Try.prog N drawB l60_0 env (upd H a b c s) K := by
  have hn := h.n
  intro m
  induction m with
  | zero =>
    intro i r s env hi hr hrn hs hR h0 h2 h10 h11 h46 h47 h48
    refine li_go hm l60_0.eq_1 ?_
    have e : i = x.nx.length := by omega
    subst e
    simp -implicitDefEqProofs [h47, h48]
    rw [List.drop_length] at hR
    subst hR
    exact hexit r rfl hrn hs _ (by simp [h0]) (by simp [h10]) (by simp [h11])
  | succ m ih =>
    intro i r s env hi hr hrn hs hR h0 h2 h10 h11 h46 h47 h48
    refine li_go hm l60_0.eq_1 ?_
    have hlt : i < x.nx.length := by omega
    have w1 : IntKind.i64.wrap ((g.ns.length : Int) - ((g.ns.length - r : Nat) : Int)) = r := by rw [wrap_id (by omega) (by omega)]; omega
    have w2 : IntKind.i64.wrap (dep + 1) = dep + 1 := wrap_id (by omega) (by omega)
    rw [List.drop_eq_getElem_cons hlt] at hR
    unfold kids at hR
    by_cases hc : x.nx[i] = r
    · rw [if_pos hc] at hR
      simp -implicitDefEqProofs [h0, h2, h10, h11, h46, h47, h48, hlt, h.cells, w1, hc, w2]
      refine ⟨by omega, call_go (hok r s hr hrn hs) ?_⟩
      have hw1 := hw r s hr hs
      cases hh : w r s with
      | mk o s1 =>
        rw [hh] at hw1 hR
        cases o with
        | none =>
          subst hR
          simp -implicitDefEqProofs [resW]
          exact hret rfl _ (by simp) (by simp)
        | some r1 =>
          have h1 := hw1.2 r1 rfl
          simp -implicitDefEqProofs [resW, h48]
          refine ih (i + 1) r1 s1 _ (by omega) (by omega) h1.2 hw1.1 hR ?_ ?_ ?_ ?_ ?_ ?_ ?_
          · simp [h0]
          · simp [h2]
          · simp [h10]
          · simp
          · simp [h46]
          · simp [h47]
          · simp [wrap_suc (show i < 9223372036854775807 by omega)]
    · rw [if_neg hc] at hR
      subst hR
      simp -implicitDefEqProofs [h0, h2, h10, h11, h46, h47, h48, hlt, h.cells, w1, hc]
      refine ⟨by omega, ?_⟩
      exact hret rfl _ (by simp) (by simp)
set_option maxRecDepth 10000 in
theorem ok60 (h : Wh H j g a b c) : ∀ (f : Nat) (par dep : Int) (k : Nat) (s : W3), k ≤ g.ns.length → g.ns.length + 1 ≤ k + f → 0 ≤ dep → dep ≤ k → s.ok g.ns.length →
    Ok Try.prog 60 [.ptr (.own j 0 0 0 0) 0, i64 par, i64 dep, .slc (nds (g.ns.drop k)) (g.ns.length - k)] (upd H a b c s)
      (.ret (resW g.ns (walkS g.ns f par dep k s).1)) (upd H a b c (walkS g.ns f par dep k s).2) := by
  have ab := h.p.ab; have bc := h.p.bc; have lt := h.p.lt
  have hj := h.w.lt
  have hn := h.n
  intro f
  induction f with
  | zero => intro par dep k s h1 h2; omega
  | succ f ih =>
    intro par dep k s hk hf hd0 hd1 hs
    refine ok_fn hm Try.func60 c60 (by simp [upd_len, hj]) fun hcl => ?_
    by_cases hk' : k = g.ns.length
    · subst hk'
      simp -implicitDefEqProofs [i60, r60, walkS, resW]
      exact cv_id
    · have hlt : k < g.ns.length := by omega
      have w1 : IntKind.i64.wrap ((g.ns.length : Int) - ((g.ns.length - k : Nat) : Int)) = k := by rw [wrap_id (by omega) (by omega)]; omega
      have e1 : ∀ (s : W3) (v : Int), k < s.P.length → Ab.setObj (upd H a b c s) a (fun o => { cells := List.take k o.cells ++ i64 v :: List.drop (k + 1) o.cells, ty := o.ty, ver := o.ver, live := o.live }) = upd H a b c ⟨s.P.set k v, s.D, s.L⟩ :=
        fun s v hv => upd_sa h.p _ _ (by simp [rr, ints_set hv])
      have e2 : ∀ (s : W3) (v : Int), k < s.D.length → Ab.setObj (upd H a b c s) b (fun o => { cells := List.take k o.cells ++ i64 v :: List.drop (k + 1) o.cells, ty := o.ty, ver := o.ver, live := o.live }) = upd H a b c ⟨s.P, s.D.set k v, s.L⟩ :=
        fun s v hv => upd_sb h.p _ _ (by simp [rr, ints_set hv])
      have e3 : ∀ (s : W3) (v : Int), k < s.L.length → Ab.setObj (upd H a b c s) c (fun o => { cells := List.take k o.cells ++ i64 v :: List.drop (k + 1) o.cells, ty := o.ty, ver := o.ver, live := o.live }) = upd H a b c ⟨s.P, s.D, s.L.set k v⟩ :=
        fun s v hv => upd_sc h.p _ _ (by simp [rr, ints_set hv])
      have e4 : List.take ((g.ns.length - k - 1) * 6) (nds (g.ns.drop (k + 1))) = nds (g.ns.drop (k + 1)) := List.take_of_length_le (by rw [nds_len]; simp; omega)
      have k1 := hs.1; have k2 := hs.2.1; have k3 := hs.2.2
      rw [nds_drop hlt]
      simp -implicitDefEqProofs [i60, r60, h.cells, upd_len, show ¬ g.ns.length - k = 0 by omega, show ((g.ns.length - k : Nat) : Int) ≠ 0 by omega, w1, upd_a h.p, upd_b h.p, upd_c h.p, e1, e2, k1, k2, k3, hlt, Nd.cells, sl, e4]
      refine ⟨by omega, by omega, by omega, ?_⟩
      have hget : g.ns[k]? = some g.ns[k] := List.getElem?_eq_getElem hlt
      have hs' : W3.ok ⟨s.P.set k par, s.D.set k dep, s.L⟩ g.ns.length := ⟨by simpa using k1, by simpa using k2, k3⟩
      refine loop62 h (x := g.ns[k]) (dep := dep) (k := k) (w := walkS g.ns f k (dep + 1)) (R := kids (walkS g.ns f k (dep + 1)) g.ns[k].nx (k + 1) ⟨s.P.set k par, s.D.set k dep, s.L⟩) hd0 hd1 hlt (h.nx _ (List.getElem_mem hlt))
        (fun r s hr hrn hs => ih k (dep + 1) r s hrn (by omega) (by omega) (by omega) hs) (fun r s _ hs => walkS_ok f k (dep + 1) r s hs) (fun hR env h8 h9 => ?_) (fun r' hR hr' hs1 env h0 h10 h11 => ?_)
        g.ns[k].nx.length 0 (k + 1) _ _ (by omega) (by omega) (by omega) hs' (by simp) (by simp) (by simp) (by simp) (by simp; omega) (by simp) (by simp) (by simp)
      · simp -implicitDefEqProofs [h8, h9]
        unfold walkS
        rw [hget]
        revert hR
        simp only
        generalize kids (walkS g.ns f k (dep + 1)) g.ns[k].nx (k + 1) ⟨s.P.set k par, s.D.set k dep, s.L⟩ = R
        obtain ⟨o, s2⟩ := R
        rintro rfl
        simp [resW]
        exact cv_id
      · have w2 : IntKind.i64.wrap ((g.ns.length : Int) - ((g.ns.length - r' : Nat) : Int)) = r' := by rw [wrap_id (by omega) (by omega)]; omega
        have w3 : IntKind.i64.wrap ((r' : Int) - 1) = (r' : Int) - 1 := wrap_id (by omega) (by omega)
        unfold walkS
        rw [hget]
        revert hR hs1
        simp only
        generalize kids (walkS g.ns f k (dep + 1)) g.ns[k].nx (k + 1) ⟨s.P.set k par, s.D.set k dep, s.L⟩ = R
        obtain ⟨o, s2⟩ := R
        rintro hR hs1
        cases hR
        have k4 := hs1.2.2
        simp only at k4
        simp -implicitDefEqProofs [h0, h10, h11, h.cells, upd_len, w2, w3, upd_c h.p, e3, k4, hlt]
        refine ⟨by omega, ?_⟩
        exact cv_id
end
end Go.Proofs.Ytbfeaikiiamhaaa.Rc

