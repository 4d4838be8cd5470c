/-
  Steps of the proof: contracts of functions and plain facts that the statement rests on.
-/
import Derived.Test.YtiikfkacbglblaaD28
set_option linter.all false
namespace Go.Proofs.Ytiikfkacbglblaa
open Go.Ab
def ws (l : List (Int × Int)) : SV := .slc (infs l) l.length
/-- The place of a child. -/
theorem fstAt_of {l : List Int} {v : Int} (hinc : l.Pairwise (· < ·)) (hv : v ∈ l) : ∃ k, ∃ h : k < l.length, l[k] = v ∧ fstAt v l = k ∧ ∀ t (h : t < l.length), l[t] = v → t = k := by
  obtain ⟨k, hk, e⟩ := List.getElem_of_mem hv
  have huniq : ∀ t (h : t < l.length), l[t] = v → t = k := fun t ht h => by
    rw [List.pairwise_iff_getElem] at hinc
    rcases Nat.lt_trichotomy t k with h1 | h1 | h1
    · have := hinc t k ht hk h1; omega
    · exact h1
    · have := hinc k t hk ht h1; omega
  refine ⟨k, hk, e, ?_, huniq⟩
  have : l.findIdx? (· == v) = some k := by
    rw [List.findIdx?_eq_some_iff_getElem]
    refine ⟨hk, by simpa using e, fun j hj => ?_⟩
    intro h
    have := huniq j (by omega) (by simpa using h)
    omega
  unfold fstAt; rw [this]
section
variable {H : List AO} {g : Gm}
def nbox (x : Nd) : AO := ⟨[i64 x.k, i64 x.p, i64 x.i, .slc (ints x.nx) x.nx.length, .slc (ints x.ws) x.ws.length, .slc (ints x.ps) x.ps.length], 37, 0, true⟩
set_option maxRecDepth 10000 in
theorem loop56_1 {x : Nd} {pl : Int} {node idx : Nat} (hx60 : x.nx.length ≤ 60) (hidx : idx < x.nx.length) (hat : x.nx[idx] = node) (huniq : ∀ t (h : t < x.nx.length), x.nx[t] = node → t = idx) {l : List (Int × Int)} (hl : l.length ≤ 2000) {A : AO} {q : Nat}
    {N : Nat} {K : XE → Env → List AO → Prop} {v7 : SV}
    (hexit : ∀ env M (l' : List (Int × Int)), (l' = if x.k = 2 ∧ x.p = pl then l ++ [(x.i, (idx : Int))] else l) → env.get 2 = i64 pl → env.get 3 = .ptr (.own H.length 0 0 0 0) 0 → env.get 7 = v7 → env.get 8 = .own (H.length + 1) 0 l'.length 2 l'.length → env.get 9 = i64 node →
      K (.exit 2) env (H ++ A :: prow l' l'.length :: M)) :
    ∀ (n k : Nat) (env : Env) (acc : List (Int × Int)) (M : List AO), k + n = x.nx.length → (x.k = 2 ∧ x.p = pl ∨ k = 0) → acc = (if idx < k then l ++ [(x.i, (idx : Int))] else l) → M[q]? = some (nbox x) →
      env.get 2 = i64 pl → env.get 3 = .ptr (.own H.length 0 0 0 0) 0 → env.get 7 = v7 → env.get 8 = .own (H.length + 1) 0 acc.length 2 acc.length → env.get 9 = i64 node → env.get 10 = .ptr (.own (H.length + (q + 1 + 1)) 0 0 0 0) 0 → env.get 11 = i64 k →
      LI Try.prog N drawB l56_1 env (H ++ A :: prow acc acc.length :: M) K := by
  intro n
  induction n with
  | zero =>
    intro k env acc M hk hc hacc hq h2 h3 h7 h8 h9 h10 h11
    refine li_go hm l56_1.eq_1 ?_
    have e : k = x.nx.length := by omega
    subst e
    have hq' : objCells M q 0 = [i64 x.k, i64 x.p, i64 x.i, .slc (ints x.nx) x.nx.length, .slc (ints x.ws) x.ws.length, .slc (ints x.ps) x.ps.length] := objCells_of (o := nbox x) hq rfl
    have hc' : x.k = 2 ∧ x.p = pl := by rcases hc with h | h; exact h; omega
    simp -implicitDefEqProofs [h2, h3, h7, h8, h9, h10, h11, hq', hc'.1, hc'.2]
    exact hexit _ M acc (by rw [if_pos hc', hacc, if_pos hidx]) (by simp) (by simp) (by simp) (by simp) (by simp)
  | succ n ih =>
    intro k env acc M hk hc hacc hq h2 h3 h7 h8 h9 h10 h11
    refine li_go hm l56_1.eq_1 ?_
    have hlt : k < x.nx.length := by omega
    have w1 : IntKind.i64.wrap ((k : Int) + 1) = ((k + 1 : Nat) : Int) := wrap_succ (by omega)
    have hq' : objCells M q 0 = [i64 x.k, i64 x.p, i64 x.i, .slc (ints x.nx) x.nx.length, .slc (ints x.ws) x.ws.length, .slc (ints x.ps) x.ps.length] := objCells_of (o := nbox x) hq rfl
    have hql := getElem?_lt hq
    have hacl : acc.length ≤ 2001 := by rw [hacc]; split <;> (try simp only [List.length_append, List.length_singleton]) <;> omega
    by_cases hm1 : x.k = 2 ∧ x.p = pl
    · by_cases he : x.nx[k] = node
      · have hki := huniq k hlt he
        subst hki
        rw [if_neg (by omega)] at hacc
        subst hacc
        simp -implicitDefEqProofs [h2, h3, h7, h8, h9, h10, h11, hq', hlt, hm1.1, hm1.2, he, prow, infs_len, Nat.mul_comm]
        rw [w1]
        refine ⟨by omega, by omega, by omega, ?_⟩
        have e1 : (⟨infs acc ++ [i64 x.i, i64 k], 47, acc.length + 1, true⟩ : AO) = prow (acc ++ [(x.i, (k : Int))]) (acc ++ [(x.i, (k : Int))]).length := by simp [prow, infs_snoc]
        rw [e1]
        refine ih (k + 1) _ (acc ++ [(x.i, (k : Int))]) _ (by omega) (.inl hm1) (by rw [if_pos (by omega)]) (by rw [List.getElem?_append_left hql]; exact hq) ?_ ?_ ?_ ?_ ?_ ?_ ?_
        · simp
        · simp
        · simp
        · simp
        · simp
        · simp
        · simp
      · have hki : k ≠ idx := fun e => by subst e; exact he hat
        simp -implicitDefEqProofs [h2, h3, h7, h8, h9, h10, h11, hq', hlt, hm1.1, hm1.2, he]
        rw [w1]
        refine ⟨by omega, ?_⟩
        refine ih (k + 1) _ acc _ (by omega) (.inl hm1) (by rw [hacc]; by_cases h : idx < k
                                                            · rw [if_pos h, if_pos (by omega)]
                                                            · rw [if_neg h, if_neg (by omega)]) hq ?_ ?_ ?_ ?_ ?_ ?_ ?_
        · simp
        · simp
        · simp
        · simp
        · simp
        · simp
        · simp
    · have hk0 : k = 0 := by rcases hc with h | h; exact (hm1 h).elim; exact h
      subst hk0
      by_cases hk2 : x.k = 2
      · have hpl : ¬ x.p = pl := fun h => hm1 ⟨hk2, h⟩
        simp -implicitDefEqProofs [h2, h3, h7, h8, h9, h10, h11, hq', hlt, hk2, hpl]
        exact hexit _ M acc (by rw [if_neg hm1, hacc, if_neg (by omega)]) (by simp) (by simp) (by simp) (by simp) (by simp)
      · simp -implicitDefEqProofs [h2, h3, h7, h8, h9, h10, h11, hq', hlt, hk2]
        exact hexit _ M acc (by rw [if_neg hm1, hacc, if_neg (by omega)]) (by simp) (by simp) (by simp) (by simp) (by simp)
/-- One step up. -/
theorem up_step {pl : Int} (hW : Wg g) {f node p : Nat} (hp : p < g.ns.length) (hP : gi g.wk.2.P node = p) {l : List (Int × Int)} :
    abv g pl (fun _ _ _ => true) (fun l k a => l ++ [(infoAt g k, a)]) (f + 1) node l = abv g pl (fun _ _ _ => true) (fun l k a => l ++ [(infoAt g k, a)]) f p (if g.ns[p].k = 2 ∧ g.ns[p].p = pl then l ++ [(g.ns[p].i, fstAt node g.ns[p].nx)] else l) := by
  have hinf : infoAt g p = g.ns[p].i := by unfold infoAt; rw [List.getElem?_eq_getElem hp]
  conv => lhs; unfold abv
  rw [if_neg (by omega), hP, show ((p : Nat) : Int).toNat = p by omega, List.getElem?_eq_getElem hp]
  simp only
  by_cases h : g.ns[p].k = 2 ∧ g.ns[p].p = pl
  · rw [if_pos h, if_pos h, if_pos trivial, hinf]
  · rw [if_neg h, if_neg h]
set_option maxRecDepth 10000 in
theorem loop56_0 (hW : Wg g) {pl : Int} {N : Nat} {K : XE → Env → List AO → Prop} {Q : List (Int × Int)} (hQl : Q.length ≤ 2000)
    (hexit : ∀ env M, env.get 8 = .own (H.length + 1) 0 Q.length 2 Q.length → K (.exit 0) env (H ++ gbox g :: prow Q Q.length :: M)) :
    ∀ (f node : Nat) (env : Env) (l : List (Int × Int)) (M : List AO), node < f → node < g.ns.length → abv g pl (fun _ _ _ => true) (fun l k a => l ++ [(infoAt g k, a)]) f node l = Q → l.length + node ≤ 2000 →
      env.get 2 = i64 pl → env.get 3 = .ptr (.own H.length 0 0 0 0) 0 → env.get 7 = .slc (ints g.wk.2.P) g.wk.2.P.length → env.get 8 = .own (H.length + 1) 0 l.length 2 l.length → env.get 9 = i64 node →
      LI Try.prog N drawB l56_0 env (H ++ gbox g :: prow l l.length :: M) K := by
  have hf := hW.wf
  have hgn := hW.gd.n
  have hlen : g.wk.2.P.length = g.ns.length := wk_len.1
  intro f
  induction f with
  | zero => intro node env l M h; omega
  | succ f ih =>
    intro node env l M hnf hn hQ hll h2 h3 h7 h8 h9
    refine li_go hm l56_0.eq_1 ?_
    have hget : g.wk.2.P[node]'(by omega) = gi g.wk.2.P node := gi_get (by omega)
    rcases Nat.eq_zero_or_pos node with hz | hz
    · subst hz
      have hp0 := hf.p0
      have hneg : gi g.wk.2.P 0 < 0 := by omega
      have hhd : (ints g.wk.2.P).head? = some (i64 (-1)) := by
        rw [List.head?_eq_getElem?]
        have : (0 : Nat) < g.wk.2.P.length := by omega
        simp [ints, this, hget, hp0]
      unfold abv at hQ
      rw [if_pos hneg] at hQ
      subst hQ
      simp -implicitDefEqProofs [h2, h3, h7, h8, h9, hlen, hn, hhd]
      exact ⟨by omega, hexit _ M (by simp)⟩
    · obtain ⟨p, hp, k1, k2, k3⟩ := hf.pf node hz hn
      rw [up_step hW hp k1] at hQ
      obtain ⟨idx, hidx, e1, e2, e3⟩ := fstAt_of (hf.nf p hp).inc k3
      rw [e2] at hQ
      simp -implicitDefEqProofs [h2, h3, h7, h8, h9, hlen, hn, hget, k1, gbox, hp, nds_at hp, nds_min hp, nds_ge hp, sl]
      refine ⟨by omega, ?_⟩
      refine loop56_1 (x := g.ns[p]) (pl := pl) (node := node) (idx := idx) (nx_of (hW.gd.e _ (List.getElem_mem hp))) hidx e1 e3 (l := l) (by omega) (A := gbox g) (q := M.length) (v7 := .slc (ints g.wk.2.P) g.ns.length) (fun env M' l' hl' g2 g3 g7 g8 g9 => ?_)
        g.ns[p].nx.length 0 _ l _ (by omega) (.inr rfl) (by rw [if_neg (by omega)]) (by simp [nbox]) (by simp) (by simp) (by simp) (by simp) (by simp) (by simp) (by simp)
      rw [← hl'] at hQ
      simp -implicitDefEqProofs [g2, g3, g7, g8, g9, hn, hget, k1, hlen]
      refine ⟨by omega, ?_⟩
      refine ih p _ l' M' (by omega) hp hQ (by rw [hl']; split <;> (try simp only [List.length_append, List.length_singleton]) <;> omega) ?_ ?_ ?_ ?_ ?_
      · simp [g2]
      · simp [g3]
      · simp [g7, hlen]
      · simp [g8]
      · simp
set_option maxRecDepth 10000 in
theorem loop56_2 {l : List (Int × Int)} (hl : l.length ≤ 2000) {A : AO} {N : Nat} {K : XE → Env → List AO → Prop}
    (hexit : ∀ env M q, M[q]? = some (prow l.reverse l.length) → env.get 12 = .own (H.length + (q + 1 + 1)) 0 l.length 2 l.length → K (.exit 4) env (H ++ A :: prow l l.length :: M)) :
    ∀ (n : Nat) (env : Env) (M : List AO) (q : Nat), n ≤ l.length → M[q]? = some (prow (l.drop n).reverse (l.length - n)) →
      env.get 8 = .own (H.length + 1) 0 l.length 2 l.length → env.get 12 = .own (H.length + (q + 1 + 1)) 0 (l.length - n) 2 (l.length - n) → env.get 13 = i64 ((n : Int) - 1) →
      LI Try.prog N drawB l56_2 env (H ++ A :: prow l l.length :: M) K := by
  intro n
  induction n with
  | zero =>
    intro env M q hn hq h8 h12 h13
    refine li_go hm l56_2.eq_1 ?_
    simp -implicitDefEqProofs [h8, h12, h13]
    exact hexit _ M q (by simpa using hq) (by simp)
  | succ n ih =>
    intro env M q hn hq h8 h12 h13
    refine li_go hm l56_2.eq_1 ?_
    have hlt : n < l.length := by omega
    have e : ((n + 1 : Nat) : Int) - 1 = n := by omega
    rw [e] at h13
    have w1 : IntKind.i64.wrap ((n : Int) - 1) = (n : Int) - 1 := wrap_id (by omega) (by omega)
    have hql := getElem?_lt hq
    have hd : (l.drop (n + 1)).length = l.length - (n + 1) := by simp
    simp -implicitDefEqProofs [h8, h12, h13, prow, hlt, infs_at hlt, infs_len, setObj_old hq, objIs_old hq, objCells_set0, objCells_setk, len_addn]
    refine ⟨by omega, by omega, by omega, ?_⟩
    rw [w1]
    have en : l.length - (n + 1) + 1 = l.length - n := by omega
    rw [en]
    refine ih _ (M.set q _ ++ [_]) q (by omega) ?_ ?_ ?_ ?_
    · rw [List.getElem?_append_left (by simpa using hql), List.getElem?_set_self hql]
      rw [List.drop_eq_getElem_cons hlt, List.reverse_cons]
      simp [prow, infs_snoc]
    · simp
    · simp
    · simp
theorem ws_under {n : Nat} {l : List (Int × Int)} : (ws l).under n = true := infs_under n l
set_option maxRecDepth 10000 in
theorem ok56 (hW : Wg g) {node : Nat} (hn : node < g.ns.length) (pl : Int) : Ok Try.prog 56 [.agg g.cells, i64 node, i64 pl] H (.ret (ws (g.way node pl))) H := by
  have hgn := hW.gd.n
  refine ok_fn hm Try.func56 c56 (by simp) fun hcl => ?_
  simp -implicitDefEqProofs [i56, r56, Gm.cells]
  have hh := fun H => ok58 (H := H) hW
  simp only [Gm.cells, sl] at hh
  refine call_go (hh _) ?_
  simp -implicitDefEqProofs
  have hul : (g.up node pl).length ≤ 2000 := by
    have := way_len (g := g) (node := node) (pl := pl)
    unfold Gm.way at this
    rw [List.length_reverse] at this; omega
  refine loop56_0 (g := g) (H := H) hW (pl := pl) (Q := g.up node pl) hul (fun env M h8 => ?_) g.ns.length node _ [] [] hn hn rfl (by simp; omega) (by simp) (by simp) (by simp) (by simp) (by simp)
  have w1 : IntKind.i64.wrap (((g.up node pl).length : Int) - 1) = ((g.up node pl).length : Int) - 1 := wrap_id (by omega) (by omega)
  simp -implicitDefEqProofs [h8, w1]
  refine loop56_2 (l := g.up node pl) hul (fun env M' q hq h12 => ?_) (g.up node pl).length _ (M ++ [prow [] 0]) M.length (Nat.le_refl _) (by simp) (by simp [h8]) (by simp) (by simp)
  simp -implicitDefEqProofs [h12]
  refine cv_fz 3 hcl rfl ?_
  have hql := getElem?_lt hq
  simp [hq, prow, infs_len, Nat.mul_comm, Gm.way, ws]
  exact List.take_of_length_le (by rw [infs_len, List.length_reverse]; omega)
end
end Go.Proofs.Ytiikfkacbglblaa
