/-
  Steps of the proof: contracts of functions and plain facts that the statement rests on.
-/
import Derived.Test.YtiikfkacbglblaaD29
set_option linter.all false
namespace Go.Proofs.Ytiikfkacbglblaa
open Go.Ab
section
variable {H : List AO} {g : Gm} {a b : List (Int × Int)}
set_option maxRecDepth 10000 in
theorem loop72 (hl : a.length ≤ 100000) (hab : a.length = b.length) {N : Nat} {K : XE → Env → List AO → Prop}
    (hret : a ≠ b → ∀ env, env.get 4 = bl false → K .ret env H) (hexit : a = b → ∀ env, K (.exit 0) env H) :
    ∀ (n i : Nat) (env : Env), i + n = a.length → (∀ k (h : k < a.length), k < i → a[k] = b[k]'(by omega)) → env.get 0 = ws a → env.get 1 = ws b → env.get 5 = i64 i →
      LI Try.prog N drawB l72_0 env H K := by
  intro n
  induction n with
  | zero =>
    intro i env hi hp h0 h1 h5
    refine li_go hm l72_0.eq_1 ?_
    have e : i = a.length := by omega
    subst e
    simp -implicitDefEqProofs [h0, h1, h5, ws]
    exact hexit (List.ext_getElem hab fun k h1 h2 => hp k h1 h1) _
  | succ n ih =>
    intro i env hi hp h0 h1 h5
    refine li_go hm l72_0.eq_1 ?_
    have hlt : i < a.length := by omega
    have hlt' : i < b.length := by omega
    have w1 : IntKind.i64.wrap ((i : Int) + 1) = ((i + 1 : Nat) : Int) := wrap_succ (by omega)
    simp -implicitDefEqProofs [h0, h1, h5, ws, hlt, hlt', infs_at hlt, infs_at hlt', infs_min hlt, infs_ge hlt, infs_min hlt', infs_ge hlt']
    by_cases hc : a[i] = b[i]
    · rw [if_neg (by rw [hc]; simp)]
      rw [w1]
      refine ih (i + 1) _ (by omega) ?_ ?_ ?_ ?_
      rotate_left
      · simp [ws]
      · simp [ws]
      · simp
      intro k hk hki
      by_cases e : k = i
      · subst e; exact hc
      · exact hp k hk (by omega)
    · rw [if_pos (by
        by_cases h1 : a[i].1 = b[i].1
        · exact .inr fun h2 => hc (Prod.ext h1 h2)
        · exact .inl h1)]
      exact hret (fun e => hc (by subst e; rfl)) _ (by simp)
theorem ok72 (hl : a.length ≤ 100000) : Ok Try.prog 72 [ws a, ws b] H (.ret (bl (decide (a = b)))) H := by
  refine ok_fn hm Try.func72 c72 (by simp) fun hcl => ?_
  by_cases hab : a.length = b.length
  · simp -implicitDefEqProofs [i72, r72, ws, hab]
    refine loop72 (a := a) (b := b) hl hab (fun hne env h4 => ?_) (fun he env => ?_) a.length 0 _ (by omega) (by omega) (by simp [ws, hab]) (by simp [ws]) (by simp)
    · simp -implicitDefEqProofs [h4, hne]
      exact cv_id
    · simp -implicitDefEqProofs [he]
      exact cv_id
  · simp -implicitDefEqProofs [i72, r72, ws, show ¬ ((a.length : Int) = b.length) by omega, hab]
    have : a ≠ b := fun e => hab (by rw [e])
    simp [this]
    exact cv_id
def Gm.wayR (g : Gm) (node pl : Int) : SV := if g.wayE node pl = 0 then .tup [ws (g.way node.toNat pl), i64 0] else .tup [nl, i64 (g.wayE node pl)]
theorem ok28 (node pl : Int) : Ok Try.prog 28 [.agg g.cells, i64 node, i64 pl] H (.ret (g.wayR node pl)) H := by
  refine ok_fn hm Try.func28 c28 (by simp) fun hcl => ?_
  simp -implicitDefEqProofs [i28, r28, Gm.cells]
  have hh := fun H => ok13 (H := H) (g := g)
  simp only [Gm.cells] at hh
  refine call_go (hh _) ?_
  rw [formE_R]
  by_cases h : g.formE = 0
  · have hW := wg_of h
    simp -implicitDefEqProofs [h]
    split
    · rename_i hc
      have hl : g.wayR node pl = .tup [nl, i64 2] := by
        have : g.wayE node pl = 2 := by unfold Gm.wayE; rw [if_neg (by simpa using h), if_pos (by omega)]
        unfold Gm.wayR; rw [this]; rfl
      rw [hl]
      exact cv_fz 2 hcl rfl (by simp)
    · rename_i hc
      have hl : g.wayR node pl = .tup [ws (g.way node.toNat pl), i64 0] := by
        have : g.wayE node pl = 0 := by unfold Gm.wayE; rw [if_neg (by simpa using h), if_neg (by omega)]
        unfold Gm.wayR; rw [this]; rfl
      rw [hl]
      have hno : node = ((node.toNat : Nat) : Int) := by omega
      have h56 := fun H => ok56 (H := H) hW (node := node.toNat) (by omega) pl
      rw [← hno] at h56
      simp only [Gm.cells] at h56
      refine call_go (h56 _) ?_
      have hf : ∀ L d, SV.fz H.length [] L (d + 1) (ws (g.way node.toNat pl)) = ws (g.way node.toNat pl) := fun L d => fz_under ws_under
      simp -implicitDefEqProofs
      exact cv_fz 2 hcl rfl (by simp [hf])
  · have hE : g.wayE node pl = g.formE := by unfold Gm.wayE; rw [if_pos h]
    simp -implicitDefEqProofs [h]
    refine cv_fz 2 hcl rfl ?_
    simp [Gm.wayR, hE, h]
/-! Flaws, by the reference -/
theorem Wg.ty (h : Wg g) {x : Nd} (hx : x ∈ g.ns) (hk : x.k = 2) : g.is[x.i.toNat]? = some (x.p, (x.nx.length : Int)) := by
  have hse := h.se
  unfold Gm.setsE at hse
  by_cases hb : ∃ x ∈ g.ns, x.tyBad g
  · rw [if_pos hb] at hse; cases hse
  · by_cases h1 : g.is[x.i.toNat]? = some (x.p, (x.nx.length : Int))
    · exact h1
    · exact (hb ⟨x, hx, hk, h1⟩).elim
def dq (g : Gm) (pl info : Int) (f node : Nat) : Int := abv g pl (fun d k _ => decide (dpn g info d k < 0)) (fun d k _ => dpn g info d k) f node (-1)
theorem dq_step (hW : Wg g) {info : Nat} (hinfo : info < g.is.length) {f node p : Nat} (hp : p < g.ns.length) (hP : gi g.wk.2.P node = p) :
    dq g g.is[info].1 info (f + 1) node = if g.ns[p].k = 2 ∧ g.ns[p].i = info then (p : Int) else dq g g.is[info].1 info f p := by
  have hinf : infoAt g p = g.ns[p].i := by unfold infoAt; rw [List.getElem?_eq_getElem hp]
  have hmem : g.ns[p] ∈ g.ns := List.getElem_mem hp
  unfold dq
  conv => lhs; unfold abv
  rw [if_neg (by omega), hP, show ((p : Nat) : Int).toNat = p by omega, List.getElem?_eq_getElem hp]
  simp only
  by_cases h1 : g.ns[p].k = 2 ∧ g.ns[p].i = info
  · have hty := hW.ty hmem h1.1
    rw [h1.2, show ((info : Nat) : Int).toNat = info by omega, List.getElem?_eq_getElem hinfo] at hty
    simp only [Option.some.injEq] at hty
    have e : dpn g info (-1) p = p := by unfold dpn; rw [if_pos (by rw [hinf]; exact h1.2)]
    rw [if_pos h1, if_pos ⟨h1.1, by rw [hty]⟩, e, if_neg (by simp)]
  · rw [if_neg h1]
    by_cases h2 : g.ns[p].k = 2 ∧ g.ns[p].p = g.is[info].1
    · have e : dpn g info (-1) p = -1 := by unfold dpn; rw [if_neg (by rw [hinf]; exact fun h => h1 ⟨h2.1, h⟩)]
      rw [if_pos h2, e, if_pos (by simp)]
    · rw [if_neg h2]
theorem dq_neg {pl info : Int} {f node : Nat} (h : gi g.wk.2.P node < 0) : dq g pl info (f + 1) node = -1 := by
  unfold dq abv; rw [if_pos h]
def fr (l : List Fl) : AO := ⟨fls l, 59, l.length, true⟩
set_option maxRecDepth 10000 in
theorem loop55_2 (hW : Wg g) {info : Nat} (hinfo : info < g.is.length) {v : Int} {l : List Fl} (hl : l.length ≤ 1000000) {N : Nat} {K : XE → Env → List AO → Prop} {Q : Int} {e5 e7 e8 : SV}
    (hexit : ∀ env M (l' : List Fl), l' = (if 0 ≤ Q then l ++ [⟨1, v, info, Q⟩] else l) → env.get 1 = .ptr (.own H.length 0 0 0 0) 0 → env.get 3 = .own (H.length + 1) 0 l'.length 4 l'.length → env.get 4 = .slc (ints g.wk.2.P) g.wk.2.P.length → env.get 5 = e5 → env.get 6 = i64 info → env.get 7 = e7 → env.get 8 = e8 → env.get 9 = i64 v →
      K (.exit 4) env (H ++ gbox g :: fr l' :: M)) :
    ∀ (f node : Nat) (env : Env) (M : List AO), node < f → node < g.ns.length → dq g g.is[info].1 info f node = Q →
      env.get 1 = .ptr (.own H.length 0 0 0 0) 0 → env.get 3 = .own (H.length + 1) 0 l.length 4 l.length → env.get 4 = .slc (ints g.wk.2.P) g.wk.2.P.length → env.get 5 = e5 → env.get 6 = i64 info → env.get 7 = e7 → env.get 8 = e8 → env.get 9 = i64 v → env.get 10 = i64 (gi g.wk.2.P node) →
      LI Try.prog N drawB l55_2 env (H ++ gbox g :: fr l :: M) K := by
  have hf := hW.wf
  have hgn := hW.gd.n
  have hlen : g.wk.2.P.length = g.ns.length := wk_len.1
  intro f
  induction f with
  | zero => intro node env M h; omega
  | succ f ih =>
    intro node env M hnf hn hQ h1 h3 h4 h5 h6 h7 h8 h9 h10
    refine li_go hm l55_2.eq_1 ?_
    by_cases hneg : gi g.wk.2.P node < 0
    · rw [dq_neg hneg] at hQ
      subst hQ
      simp -implicitDefEqProofs [h1, h3, h4, h5, h6, h7, h8, h9, h10, show ¬ 0 ≤ gi g.wk.2.P node by omega]
      exact hexit _ M l (by rw [if_neg (by omega)]) (by simp [h1]) (by simp [h3]) (by simp [h4]) (by simp [h5]) (by simp [h6]) (by simp [h7]) (by simp [h8]) (by simp [h9])
    · have hz : 0 < node := by
        rcases Nat.eq_zero_or_pos node with h | h
        · subst h; rw [hf.p0] at hneg; omega
        · exact h
      obtain ⟨p, hp, k1, k2, k3⟩ := hf.pf node hz hn
      rw [dq_step hW hinfo hp k1] at hQ
      rw [k1] at h10
      have hget : g.wk.2.P[p]'(by omega) = gi g.wk.2.P p := gi_get (by omega)
      have g0 : (nds g.ns)[p * 6]? = some (i64 g.ns[p].k) := by have := nds_get (l := g.ns) (t := 0) hp (by omega); simpa [Nd.cells] using this
      by_cases hc : g.ns[p].k = 2 ∧ g.ns[p].i = info
      · rw [if_pos hc] at hQ
        subst hQ
        simp -implicitDefEqProofs [h1, h3, h4, h5, h6, h7, h8, h9, h10, gbox, hp, nds_at hp, nds_g2 hp, g0, nds_len, hc.1, hc.2, fr, fls_len]
        refine ⟨by omega, by omega, by omega, by omega, ?_⟩
        have e1 : (⟨fls l ++ [i64 1, i64 v, i64 info, i64 p], 59, l.length + 1, true⟩ : AO) = fr (l ++ [⟨1, v, info, p⟩]) := by simp [fr, fls_snoc]
        rw [e1]
        refine hexit _ _ (l ++ [⟨1, v, info, p⟩]) ?_ ?_ ?_ ?_ ?_ ?_ ?_ ?_ ?_
        · rw [if_pos (by omega)]
        · simp
        · simp
        · simp
        · simp
        · simp
        · simp
        · simp
        · simp
      · rw [if_neg hc] at hQ
        by_cases hk2 : g.ns[p].k = 2
        · have hi2 : ¬ g.ns[p].i = info := fun h => hc ⟨hk2, h⟩
          simp -implicitDefEqProofs [h1, h3, h4, h5, h6, h7, h8, h9, h10, gbox, hp, nds_at hp, nds_g2 hp, g0, nds_len, hk2, hi2, hlen]
          refine ⟨by omega, by omega, ?_⟩
          rw [hget]
          refine ih p _ M (by omega) hp hQ ?_ ?_ ?_ ?_ ?_ ?_ ?_ ?_ ?_
          · simp
          · simp
          · simp [hlen]
          · simp
          · simp
          · simp
          · simp
          · simp
          · simp
        · simp -implicitDefEqProofs [h1, h3, h4, h5, h6, h7, h8, h9, h10, gbox, hp, nds_at hp, nds_g2 hp, g0, nds_len, hk2, hlen]
          refine ⟨by omega, ?_⟩
          rw [hget]
          refine ih p _ M (by omega) hp hQ ?_ ?_ ?_ ?_ ?_ ?_ ?_ ?_ ?_
          · simp
          · simp
          · simp [hlen]
          · simp
          · simp
          · simp
          · simp
          · simp
          · simp
def stepF (g : Gm) (pl info n0 : Int) (first : List (Int × Int)) (v : Int) (l : List Fl) : List Fl :=
  if g.way v.toNat pl = first then (if 0 ≤ g.deep v.toNat pl info then l ++ [⟨1, v, info, g.deep v.toNat pl info⟩] else l)
  else (if 0 ≤ g.deep v.toNat pl info then l ++ [⟨1, v, info, g.deep v.toNat pl info⟩] else l) ++ [⟨2, v, info, n0⟩]
theorem seek_true {pl info n0 : Int} {first : List (Int × Int)} {v : Int} {r : List Int} {l : List Fl} :
    seekS g (fun _ _ => true) nxF info pl n0 first (v :: r) l = seekS g (fun _ _ => true) nxF info pl n0 first r (stepF g pl info n0 first v l) := by
  conv => lhs; unfold seekS
  simp only
  rw [if_neg (by simp)]
  unfold stepF
  by_cases hw : g.way v.toNat pl = first
  · rw [if_pos hw, if_pos hw]; rfl
  · rw [if_neg hw, if_neg hw, if_pos trivial]; rfl
theorem stepF_len {pl info n0 : Int} {first : List (Int × Int)} {v : Int} {l : List Fl} : (stepF g pl info n0 first v l).length ≤ l.length + 2 := by
  unfold stepF
  split <;> split <;> simp
set_option maxRecDepth 10000 in
theorem loop55_1 (hW : Wg g) {i : Nat} (hi : i < g.is.length) {n0 : Int} (hn0 : (g.sets[i]'(by rw [sets_len]; exact hi)).head? = some n0) {N : Nat} {K : XE → Env → List AO → Prop} {Q : List Fl}
    (hexit : ∀ env M, Q.length ≤ 4000 * (i + 1) → env.get 1 = .ptr (.own H.length 0 0 0 0) 0 → env.get 3 = .own (H.length + 1) 0 Q.length 4 Q.length → env.get 4 = .slc (ints g.wk.2.P) g.wk.2.P.length → env.get 5 = g.setsV → env.get 6 = i64 i → K (.exit 2) env (H ++ gbox g :: fr Q :: M)) :
    ∀ (n k : Nat) (env : Env) (l : List Fl) (M : List AO), k + n = (g.sets[i]'(by rw [sets_len]; exact hi)).length → l.length ≤ 4000 * i + 2 * k → (seekS g (fun _ _ => true) nxF i g.is[i].1 n0 (g.way n0.toNat g.is[i].1) ((g.sets[i]'(by rw [sets_len]; exact hi)).drop k) l).2 = Q →
      env.get 1 = .ptr (.own H.length 0 0 0 0) 0 → env.get 3 = .own (H.length + 1) 0 l.length 4 l.length → env.get 4 = .slc (ints g.wk.2.P) g.wk.2.P.length → env.get 5 = g.setsV → env.get 6 = i64 i → env.get 7 = i64 g.is[i].1 → env.get 8 = i64 k →
      LI Try.prog N drawB l55_1 env (H ++ gbox g :: fr l :: M) K := by
  have hf := hW.wf
  have hgn := hW.gd.n
  have hgi := hW.gd.i
  have hlen : g.wk.2.P.length = g.ns.length := wk_len.1
  have hls : i < g.sets.length := by rw [sets_len]; exact hi
  have hne := hW.ne i hls
  have hlk := sets_lenk (g := g) hls
  have hpos : 0 < g.sets[i].length := List.length_pos_iff.2 hne
  have hhead : (ints g.sets[i]).head? = some (i64 n0) := by
    cases hc : g.sets[i] with
    | nil => exact (hne hc).elim
    | cons y r => rw [hc] at hn0; simp at hn0; subst hn0; rfl
  have hv0 := sets_mem hls (List.mem_of_head? hn0)
  intro n
  induction n with
  | zero =>
    intro k env l M hk hl hQ h1 h3 h4 h5 h6 h7 h8
    refine li_go hm l55_1.eq_1 ?_
    have e : k = g.sets[i].length := by omega
    subst e
    rw [List.drop_length] at hQ
    simp only [seekS] at hQ
    subst hQ
    simp -implicitDefEqProofs [h1, h3, h4, h5, h6, h7, h8, Gm.setsV, hi, hls, slN_at hls, slN_ne hne]
    exact hexit _ M (by omega) (by simp) (by simp) (by simp) (by simp [Gm.setsV]) (by simp)
  | succ n ih =>
    intro k env l M hk hl hQ h1 h3 h4 h5 h6 h7 h8
    refine li_go hm l55_1.eq_1 ?_
    have hlt : k < g.sets[i].length := by omega
    have w1 : IntKind.i64.wrap ((k : Int) + 1) = ((k + 1 : Nat) : Int) := wrap_succ (by omega)
    have hv := sets_mem hls (List.getElem_mem hlt)
    have hvn : g.sets[i][k] = ((g.sets[i][k].toNat : Nat) : Int) := by omega
    have hvl : g.sets[i][k].toNat < g.ns.length := by omega
    rw [List.drop_eq_getElem_cons hlt, seek_true] at hQ
    have hget : g.wk.2.P[g.sets[i][k].toNat]'(by omega) = gi g.wk.2.P g.sets[i][k].toNat := gi_get (by omega)
    simp -implicitDefEqProofs [h1, h3, h4, h5, h6, h7, h8, Gm.setsV, hi, hls, slN_at hls, slN_ne hne, hlt, hlen, hvl, hget, hv.1, hv.2]
    refine ⟨by omega, by omega, ?_⟩
    have hdeep : dq g g.is[i].1 i g.ns.length g.sets[i][k].toNat = g.deep g.sets[i][k].toNat g.is[i].1 i := rfl
    refine loop55_2 (g := g) hW hi (v := g.sets[i][k]) (l := l) (by omega) (Q := g.deep g.sets[i][k].toNat g.is[i].1 i) (e5 := g.setsV) (e7 := i64 g.is[i].1) (e8 := i64 k) (fun env M' l' hl' q1 q3 q4 q5 q6 q7 q8 q9 => ?_)
      g.ns.length g.sets[i][k].toNat _ M hvl hvl hdeep (by simp) (by simp) (by simp [hlen]) (by simp [Gm.setsV]) (by simp) (by simp) (by simp) (by simp) (by simp)
    have hl'l : l'.length ≤ l.length + 1 := by rw [hl']; split <;> simp
    have h56 := fun H => ok56 (H := H) hW (node := g.sets[i][k].toNat) hvl g.is[i].1
    rw [← hvn] at h56
    simp only [Gm.cells] at h56
    have h56' := fun H => ok56 (H := H) hW (node := n0.toNat) (by omega) g.is[i].1
    rw [show ((n0.toNat : Nat) : Int) = n0 by omega] at h56'
    simp only [Gm.cells] at h56'
    simp -implicitDefEqProofs [q1, q3, q4, q5, q6, q7, q8, q9, gbox, Gm.setsV]
    refine callq_go (fun _ => h56 _) ?_
    simp -implicitDefEqProofs [q1, q3, q4, q5, q6, q7, q8, q9, gbox, Gm.setsV, hi, hls, slN_at hls, slN_ne hne, hhead, hpos]
    refine ⟨by omega, by omega, ?_⟩
    refine callq_go (fun _ => h56' _) ?_
    refine callq_go (fun _ => ok72 (by have := way_len (g := g) (node := g.sets[i][k].toNat) (pl := g.is[i].1); omega)) ?_
    by_cases hw : g.way g.sets[i][k].toNat g.is[i].1 = g.way n0.toNat g.is[i].1
    · have hst : stepF g g.is[i].1 i n0 (g.way n0.toNat g.is[i].1) g.sets[i][k] l = l' := by
        unfold stepF; rw [if_pos hw, hl']
      rw [hst] at hQ
      simp -implicitDefEqProofs [hw]
      rw [w1]
      refine ih (k + 1) _ l' M' (by omega) (by omega) hQ ?_ ?_ ?_ ?_ ?_ ?_ ?_
      · simp [q1]
      · simp [q3]
      · simp [q4]
      · simp [q5]
      · simp [q6]
      · simp [q7]
      · simp
    · have hst : stepF g g.is[i].1 i n0 (g.way n0.toNat g.is[i].1) g.sets[i][k] l = l' ++ [⟨2, g.sets[i][k], i, n0⟩] := by
        unfold stepF; rw [if_neg hw, hl']
      rw [hst] at hQ
      simp -implicitDefEqProofs [hw, q1, q3, q4, q5, q6, q7, q8, q9, Gm.setsV, hi, hls, slN_at hls, slN_ne hne, hhead, hpos, fr, fls_len]
      refine ⟨by omega, by omega, by omega, by omega, by omega, ?_⟩
      rw [w1]
      have e1 : (⟨fls l' ++ [i64 2, i64 g.sets[i][k], i64 i, i64 n0], 59, l'.length + 1, true⟩ : AO) = fr (l' ++ [⟨2, g.sets[i][k], i, n0⟩]) := by simp [fr, fls_snoc]
      rw [e1]
      refine ih (k + 1) _ (l' ++ [⟨2, g.sets[i][k], i, n0⟩]) _ (by omega) (by simp; omega) hQ ?_ ?_ ?_ ?_ ?_ ?_ ?_
      · simp [q1]
      · simp
      · simp [q4]
      · simp [q5, Gm.setsV]
      · simp [q6]
      · simp [q7]
      · simp
set_option maxRecDepth 10000 in
theorem loop55_0 (hW : Wg g) {N : Nat} {K : XE → Env → List AO → Prop} {Q : List Fl}
    (hexit : ∀ env M, Q.length ≤ 1000000 → env.get 3 = .own (H.length + 1) 0 Q.length 4 Q.length → K (.exit 0) env (H ++ gbox g :: fr Q :: M)) :
    ∀ (n i : Nat) (env : Env) (l : List Fl) (M : List AO), i + n = g.is.length → l.length ≤ 4000 * i → setsL g (fun _ _ => true) nxF (fun _ => true) false n i l = Q →
      env.get 1 = .ptr (.own H.length 0 0 0 0) 0 → env.get 3 = .own (H.length + 1) 0 l.length 4 l.length → env.get 4 = .slc (ints g.wk.2.P) g.wk.2.P.length → env.get 5 = g.setsV → env.get 6 = i64 i →
      LI Try.prog N drawB l55_0 env (H ++ gbox g :: fr l :: M) K := by
  have hgi := hW.gd.i
  have hgn := hW.gd.n
  have hsl : g.sets.length = g.is.length := sets_len
  intro n
  induction n with
  | zero =>
    intro i env l M hi hl hQ h1 h3 h4 h5 h6
    refine li_go hm l55_0.eq_1 ?_
    have e : i = g.is.length := by omega
    subst e
    simp only [setsL] at hQ
    subst hQ
    simp -implicitDefEqProofs [h1, h3, h4, h5, h6, Gm.setsV]
    exact hexit _ M (by omega) (by simp)
  | succ n ih =>
    intro i env l M hi hl hQ h1 h3 h4 h5 h6
    refine li_go hm l55_0.eq_1 ?_
    have hlt : i < g.is.length := by omega
    have hls : i < g.sets.length := by omega
    have w1 : IntKind.i64.wrap ((i : Int) + 1) = ((i + 1 : Nat) : Int) := wrap_succ (by omega)
    have hne := hW.ne i hls
    have hlk := sets_lenk (g := g) hls
    unfold setsL at hQ
    rw [List.getElem?_eq_getElem hlt, List.getElem?_eq_getElem hls] at hQ
    simp only [if_true] at hQ
    rw [if_neg (by simp)] at hQ
    obtain ⟨n0, hn0⟩ : ∃ n0, g.sets[i].head? = some n0 := by
      cases h : g.sets[i] with
      | nil => exact (hne h).elim
      | cons y r => exact ⟨y, rfl⟩
    have hd0 : g.sets[i].headD 0 = n0 := by rw [List.headD_eq_head?_getD, hn0]; rfl
    rw [hd0] at hQ
    simp -implicitDefEqProofs [h1, h3, h4, h5, h6, Gm.setsV, hlt, hls, gbox, infs_g0 hlt, infs_len]
    refine ⟨by omega, ?_⟩
    refine loop55_1 (g := g) hW hlt hn0 (Q := (seekS g (fun _ _ => true) nxF i g.is[i].1 n0 (g.way n0.toNat g.is[i].1) g.sets[i] l).2) (fun env M' hQl q1 q3 q4 q5 q6 => ?_) g.sets[i].length 0 _ l M (by omega) (by omega) rfl (by simp) (by simp) (by simp [h4]) (by simp [Gm.setsV]) (by simp) (by simp) (by simp)
    simp -implicitDefEqProofs [q6]
    rw [w1]
    refine ih (i + 1) _ _ M' (by omega) hQl hQ ?_ ?_ ?_ ?_ ?_
    · simp [q1]
    · simp [q3]
    · simp [q4]
    · simp [q5]
    · simp
def fs (l : List Fl) : SV := .slc (fls l) l.length
theorem fs_under {n : Nat} {l : List Fl} : (fs l).under n = true := fls_under n l
theorem flaws_len (hW : Wg g) : g.flaws.length ≤ 1000000 := by
  have hgi := hW.gd.i
  have hgn := hW.gd.n
  have hsk : ∀ (r : List Int) (i : Nat) (pl n0 : Int) (first : List (Int × Int)) (l : List Fl), (seekS g (fun _ _ => true) nxF i pl n0 first r l).2.length ≤ l.length + 2 * r.length := by
    intro r
    induction r with
    | nil => intro i pl n0 first l; simp [seekS]
    | cons v r ih =>
      intro i pl n0 first l
      rw [seek_true]
      have h1 := ih i pl n0 first (stepF g pl i n0 first v l)
      have h2 := stepF_len (g := g) (pl := pl) (info := i) (n0 := n0) (first := first) (v := v) (l := l)
      simp only [List.length_cons]; omega
  have : ∀ (n i : Nat) (l : List Fl), (setsL g (fun _ _ => true) nxF (fun _ => true) false n i l).length ≤ l.length + 4000 * n := by
    intro n
    induction n with
    | zero => intro i l; simp [setsL]
    | succ n ih =>
      intro i l
      unfold setsL
      by_cases hls : i < g.sets.length
      · have hlt : i < g.is.length := by rw [← sets_len]; exact hls
        rw [List.getElem?_eq_getElem hls, List.getElem?_eq_getElem hlt]
        simp only [if_true]
        rw [if_neg (by simp)]
        refine Nat.le_trans (ih _ _) ?_
        have h1 := hsk g.sets[i] i g.is[i].1 (g.sets[i].headD 0) (g.way (g.sets[i].headD 0).toNat g.is[i].1) l
        have h2 := sets_lenk (g := g) hls
        omega
      · rw [List.getElem?_eq_none (by omega)]
        simp only; omega
  have h := this g.is.length 0 []
  unfold Gm.flaws
  simp only [List.length_nil] at h
  omega
set_option maxRecDepth 10000 in
theorem ok55 (hW : Wg g) : Ok Try.prog 55 [.agg g.cells] H (.ret (fs g.flaws)) H := by
  refine ok_fn hm Try.func55 c55 (by simp) fun hcl => ?_
  simp -implicitDefEqProofs [i55, r55, Gm.cells]
  have hh := fun H => ok58 (H := H) hW
  simp only [Gm.cells, sl] at hh
  refine call_go (hh _) ?_
  simp -implicitDefEqProofs
  have hh := fun H => ok41 (H := H) hW.gd
  simp only [Gm.cells] at hh
  refine call_go (hh _) ?_
  simp -implicitDefEqProofs
  refine loop55_0 (g := g) (H := H) hW (Q := g.flaws) (fun env M hl h3 => ?_) g.is.length 0 _ [] [] (by omega) (by simp) rfl (by simp) (by simp) (by simp) (by simp [Gm.setsV]) (by simp)
  simp -implicitDefEqProofs [h3]
  refine cv_fz 3 hcl rfl ?_
  simp [fr, fls_len, Nat.mul_comm, fs]
  exact List.take_of_length_le (by rw [fls_len]; omega)
end
end Go.Proofs.Ytiikfkacbglblaa
