/-
  Steps of the proof: contracts of functions and plain facts that the statement rests on.
-/
import Derived.Test.YtbfeaikiiamhaaaH_D8
set_option linter.all false
namespace Go.Proofs.Ytbfeaikiiamhaaa.Rc
open Go.Ab
def kidsR (w : Nat → Int → Option Nat × Int) : List Int → Nat → Int → Option Nat × Int
  | [], r, m => (some r, m)
  | c :: cs, r, m => if c = r then (match w r m with | (none, m) => (none, m) | (some r, m) => kidsR w cs r m) else (none, m)
def walkR (ns : List Nd) : Nat → Int → Nat → Int → Option Nat × Int
  | 0, _, _, m => (none, m)
  | f + 1, dep, k, m =>
    match ns[k]? with
    | none => (none, m)
    | some x => kidsR (walkR ns f (dep + 1)) x.nx (k + 1) (max m dep)
theorem kidsR_ok {n : Nat} {w : Nat → Int → Option Nat × Int} (hw : ∀ r m r', (w r m).1 = some r' → r < r' ∧ r' ≤ n) :
    ∀ (l : List Int) (r : Nat) (m : Int), r ≤ n → ∀ r', (kidsR w l r m).1 = some r' → r ≤ r' ∧ r' ≤ n
  | [], r, m, hn => fun r' h => by simp [kidsR] at h; omega
  | c :: cs, r, m, hn => by
    unfold kidsR
    by_cases hc : c = r
    · rw [if_pos hc]
      have h := hw r m
      cases hh : w r m with
      | mk o m1 =>
        rw [hh] at h
        cases o with
        | none => exact fun r' h' => by simp at h'
        | some r1 =>
          have h1 := h r1 rfl
          have h2 := kidsR_ok hw cs r1 m1 h1.2
          exact fun r' h' => by have := h2 r' h'; omega
    · rw [if_neg hc]
      exact fun r' h => by simp at h
theorem walkR_ok {ns : List Nd} : ∀ (f : Nat) (dep : Int) (k : Nat) (m : Int) (r : Nat), (walkR ns f dep k m).1 = some r → k < r ∧ r ≤ ns.length
  | 0, dep, k, m => fun r h => by simp [walkR] at h
  | f + 1, dep, k, m => by
    unfold walkR
    cases hk : ns[k]? with
    | none => exact fun r h => by simp at h
    | some x =>
      have hlt := getElem?_lt hk
      intro r h
      have := kidsR_ok (n := ns.length) (w := walkR ns f (dep + 1)) (fun r m r' h => walkR_ok f (dep + 1) r m r' h) x.nx (k + 1) (max m dep) (by omega) r h
      omega
def upq (H : List AO) (q : Nat) (m : Int) : List AO := H.set q ⟨[i64 m], 3, 0, true⟩
def resR : Option Nat → Int
  | none => -1
  | some r => r
section
variable {H L : List AO} {g : Gm} {q j : Nat} {m m' : Int}
theorem upq_len : (upq H q m).length = H.length := by simp [upq]
theorem upq_app (h : q < H.length) : upq (H ++ L) q m = upq H q m ++ L := by
  unfold upq; rw [List.set_append_left _ _ h]
theorem upq_get (h : q < H.length) : (upq H q m)[q]? = some ⟨[i64 m], 3, 0, true⟩ := by unfold upq; rw [List.getElem?_set_self h]
theorem upq_c (h : q < H.length) : objCells (upq H q m) q 0 = [i64 m] := objCells_of (o := ⟨[i64 m], 3, 0, true⟩) (upq_get h) rfl
theorem upq_cA (h : q < H.length) : objCells (upq H q m ++ L) q 0 = [i64 m] := by rw [objCells_app L (by rw [upq_len]; exact h), upq_c h]
theorem upq_sA (h : q < H.length) (f : AO → AO) (hf : f ⟨[i64 m], 3, 0, true⟩ = ⟨[i64 m'], 3, 0, true⟩) : Ab.setObj (upq H q m ++ L) q f = upq H q m' ++ L := by
  rw [setObj_some (o := ⟨[i64 m], 3, 0, true⟩) (by rw [List.getElem?_append_left (by rw [upq_len]; exact h)]; exact upq_get h), hf]
  unfold upq
  rw [List.set_append_left _ _ (by simpa using h), List.set_set]
theorem upq_closed (h : closed (upq H q m)) : closed (upq H q m') := by
  intro i o ho s hs
  by_cases e : i = q
  · subst e
    unfold upq at ho
    rw [List.getElem?_set] at ho
    simp only [if_true] at ho
    split at ho
    · cases ho
      simp only [List.mem_singleton] at hs
      subst hs; rfl
    · cases ho
  · unfold upq at ho
    rw [List.getElem?_set_ne (fun h => e h.symm)] at ho
    have := h i o (by unfold upq; rw [List.getElem?_set_ne (fun h => e h.symm)]; exact ho) s hs
    simpa [upq_len] using this
theorem nds_get {l : List Nd} {k t : Nat} (h : k < l.length) (ht : t < 6) : (nds l)[k * 6 + t]? = l[k].cells[t]? := by
  rw [← List.getElem?_drop, Nat.mul_comm, nds_drop' h, List.getElem?_append_left (by simpa [Nd.cells] using ht)]
theorem nds_g3 {l : List Nd} {k : Nat} (h : k < l.length) : (nds l)[k * 6 + 3]? = some (.slc (ints l[k].nx) l[k].nx.length) := by rw [nds_get h (by omega)]; rfl
set_option maxRecDepth 10000 in
theorem loop40 (hq : q < H.length) {x : Nd} {dep : Int} {k : Nat} {w : Nat → Int → Option Nat × Int} {R : Option Nat × Int} (hd0 : 0 ≤ dep) (hd1 : dep ≤ k) (hk : k < g.ns.length) (hx : x = g.ns[k]) (hn : g.ns.length ≤ 2000) (hnx : x.nx.length < 4611686018427387904)
    (hok : ∀ r m, k + 1 ≤ r → r ≤ g.ns.length → Ok Try.prog 52 [.agg g.cells, i64 r, i64 (dep + 1), .ptr (.own q 0 0 0 0) 0] (upq H q m ++ [gbox g]) (.ret (i64 (resR (w r m).1))) (upq H q (w r m).2 ++ [gbox g]))
    (hw : ∀ r m r', (w r m).1 = some r' → r < r' ∧ r' ≤ g.ns.length)
    {N : Nat} {K : XE → Env → List AO → Prop}
    (hret : R.1 = none → ∀ env, env.get 8 = i64 (-1) → K .ret env (upq H q R.2 ++ [gbox g]))
    (hexit : ∀ r', R.1 = some r' → ∀ env, env.get 9 = i64 r' → K (.exit 0) env (upq H q R.2 ++ [gbox g])) :
    ∀ (n i r : Nat) (m : Int) (env : Env), i + n = x.nx.length → k + 1 ≤ r → r ≤ g.ns.length → kidsR w (x.nx.drop i) r m = R →
      env.get 1 = i64 k → env.get 2 = i64 dep → env.get 3 = .ptr (.own q 0 0 0 0) 0 → env.get 4 = .ptr (.own H.length 0 0 0 0) 0 → env.get 9 = i64 r → env.get 10 = i64 i →
      LI Try.prog N drawB l52_0 env (upq H q m ++ [gbox g]) K := by
  subst hx
  have hgb : ∀ m, objCells (upq H q m ++ [gbox g]) H.length 0 = [i64 g.pl, .slc (nds g.ns) g.ns.length, .slc (infs g.is) g.is.length] := fun m => by
    have := objCells_new0 (upq H q m) [gbox g] 0
    rw [upq_len] at this
    rw [this]; rfl
  intro n
  induction n with
  | zero =>
    intro i r m env hi hr hrn hR h1 h2 h3 h4 h9 h10
    refine li_go hm l52_0.eq_1 ?_
    have e : i = g.ns[k].nx.length := by omega
    subst e
    simp -implicitDefEqProofs [h1, h4, h9, h10, hgb, hk, nds_g3 hk, nds_len]
    refine ⟨by omega, ?_⟩
    rw [List.drop_length] at hR
    subst hR
    exact hexit r rfl _ (by simp)
  | succ n ih =>
    intro i r m env hi hr hrn hR h1 h2 h3 h4 h9 h10
    refine li_go hm l52_0.eq_1 ?_
    have hlt : i < g.ns[k].nx.length := by omega
    have w2 : IntKind.i64.wrap (dep + 1) = dep + 1 := wrap_id (by omega) (by omega)
    rw [List.drop_eq_getElem_cons hlt] at hR
    unfold kidsR at hR
    by_cases hc : g.ns[k].nx[i] = r
    · rw [if_pos hc] at hR
      simp -implicitDefEqProofs [h1, h2, h3, h4, h9, h10, hlt, hgb, hk, nds_g3 hk, nds_len, hc, w2]
      refine ⟨by omega, by omega, call_go (hok r m hr hrn) ?_⟩
      have hw1 := hw r m
      cases hh : w r m with
      | mk o m1 =>
        rw [hh] at hw1 hR
        cases o with
        | none =>
          subst hR
          simp -implicitDefEqProofs [resR]
          exact hret rfl _ (by simp)
        | some r1 =>
          have h1' := hw1 r1 rfl
          simp -implicitDefEqProofs [resR, h10]
          refine ih (i + 1) r1 m1 _ (by omega) (by omega) h1'.2 hR ?_ ?_ ?_ ?_ ?_ ?_
          · simp [h1]
          · simp [h2]
          · simp [h3]
          · simp [h4]
          · simp
          · simp [wrap_suc (show i < 9223372036854775807 by omega)]
    · rw [if_neg hc] at hR
      subst hR
      simp -implicitDefEqProofs [h1, h2, h3, h4, h9, h10, hlt, hgb, hk, nds_g3 hk, nds_len, hc]
      refine ⟨by omega, by omega, ?_⟩
      exact hret rfl _ (by simp)
set_option maxRecDepth 10000 in
theorem ok52 (hn : g.ns.length ≤ 2000) (hnx : ∀ x ∈ g.ns, x.nx.length < 4611686018427387904) : ∀ (f : Nat) (H : List AO) (dep : Int) (k : Nat) (m : Int), q < H.length → k ≤ g.ns.length → g.ns.length + 1 ≤ k + f → 0 ≤ dep → dep ≤ k →
    Ok Try.prog 52 [.agg g.cells, i64 k, i64 dep, .ptr (.own q 0 0 0 0) 0] (upq H q m) (.ret (i64 (resR (walkR g.ns f dep k m).1))) (upq H q (walkR g.ns f dep k m).2) := by
  intro f
  induction f with
  | zero => intro H dep k m hq h1 h2; omega
  | succ f ih =>
    intro H dep k m hq hk hf hd0 hd1
    refine ok_fn hm Try.func52 c52 (by simp [Gm.cells]) fun hcl => ?_
    have hw : ∀ m, objCells (upq H q m ++ [gbox g]) q 0 = [i64 m] := fun m => upq_cA hq
    by_cases hk' : k = g.ns.length
    · subst hk'
      have e : walkR g.ns (f + 1) dep g.ns.length m = (none, m) := by simp [walkR]
      rw [e]
      simp -implicitDefEqProofs [i52, r52, Gm.cells]
      refine cv_fz 1 hcl rfl ?_
      simp [resR]
    · have hlt : k < g.ns.length := by omega
      have w1 : IntKind.i64.wrap ((k : Int) + 1) = ((k + 1 : Nat) : Int) := wrap_succ (by omega)
      simp -implicitDefEqProofs [i52, r52, Gm.cells, hlt, upq_cA hq, show ¬ g.ns.length ≤ k by omega, w1]
      have hget : g.ns[k]? = some g.ns[k] := List.getElem?_eq_getElem hlt
      have e : walkR g.ns (f + 1) dep k m = kidsR (walkR g.ns f (dep + 1)) g.ns[k].nx (k + 1) (max m dep) := by rw [walkR, hget]
      rw [e, upq_sA (m' := max m dep) hq _ (by rfl)]
      refine loop40 (q := q) (g := g) hq (x := g.ns[k]) (dep := dep) (k := k) (w := walkR g.ns f (dep + 1)) (R := kidsR (walkR g.ns f (dep + 1)) g.ns[k].nx (k + 1) (max m dep)) hd0 hd1 hlt rfl hn (hnx _ (List.getElem_mem hlt))
        (fun r m hr hrn => ?_) (fun r m r' h => walkR_ok f (dep + 1) r m r' h) (fun hR env h8 => ?_) (fun r' hR env h9 => ?_)
        g.ns[k].nx.length 0 (k + 1) (max m dep) _ (by omega) (by omega) (by omega) (by simp) (by simp) (by simp) (by simp) (by simp [upq_len]) (by simp) (by simp)
      · rw [← upq_app hq, ← upq_app hq]
        exact ih (H ++ [gbox g]) (dep + 1) r m (by simp; omega) hrn (by omega) (by omega) (by omega)
      · simp -implicitDefEqProofs [h8]
        rw [hR]
        exact cv_fz 1 (upq_closed hcl) (by rw [upq_len, upq_len]) (by simp [resR])
      · simp -implicitDefEqProofs [h9]
        rw [hR]
        exact cv_fz 1 (upq_closed hcl) (by rw [upq_len, upq_len]) (by simp [resR])
end
end Go.Proofs.Ytbfeaikiiamhaaa.Rc

