/-
  Steps of the proof: contracts of functions and plain facts that the statement rests on.
-/
import Derived.Test.YtiikfkacbglblaaPart2
import Derived.Test.YtiikfkacbglblaaRk
set_option linter.all false
/- S5 -/
namespace Go.Proofs.Ytiikfkacbglblaa
open Go.Ab
theorem ok4' {H : List AO} : Ok Try.prog 4 [] H (.ret (bl true)) H := ok_lift known4 rfl
section
variable {g : Gm} {H : List AO}
theorem way_ok (hF : g.formE = 0) {node : Nat} {pl : Int} (hn : node < g.ns.length) (h0 : 0 ≤ pl) (h1 : pl < g.pl) : Ok Try.prog 18 [.agg g.cells, i64 node, i64 pl] H (.ret (.tup [wv (g.way node pl), i64 0])) H := by
  have := ok18 (H := H) (g := g) node pl
  have e : g.wayE node pl = 0 := by unfold Gm.wayE; rw [if_neg (by omega), if_neg (by omega)]
  unfold Gm.wayV at this
  rw [if_pos e] at this
  simpa using this
end
end Go.Proofs.Ytiikfkacbglblaa

/- S6 -/
namespace Go.Proofs.Ytiikfkacbglblaa
open Go.Ab
theorem NO.fzk {b n k d : Nat} {ks : List Nat} {M F : List AO} (hb : b = n + k) (hF : ∀ p, F[k + p]? = M[p]?) (hk : ∀ (p : Nat) (l : List Int), M[p]? = some (⟨ints l, 3, 2, true⟩ : AO) → placeOf ks (k + p) = none) :
    ∀ {l : List Nd} {cs : List SV}, NO b M l cs → cs.map (SV.fz n ks F (d + 2)) = nds l
  | [], cs, hn => by cases hn; rfl
  | x :: r, cs, ⟨p1, p2, p3, rest, h0, h1, h2, h3, h4⟩ => by
    subst h0
    have e : ∀ p, b + p = n + (k + p) := fun p => by omega
    simp only [List.map_cons, NO.fzk hb hF hk h4, nds, Nd.cells, e, fz_own, hF, h1, h2, h3, hk _ _ h1, hk _ _ h2, hk _ _ h3, fz_i64]
    simp [sl]
theorem nds_cells (l : List Nd) : cellsOk (nds l) := by
  rw [nds_rws]
  refine rws_cells (fun x y hy => ?_) l
  simp only [Nd.cells, List.mem_cons, List.not_mem_nil, or_false] at hy
  rcases hy with rfl | rfl | rfl | rfl | rfl | rfl <;> rfl
section
variable {H : List AO} {g : Gm}
/-- A copy of a game whose nodes stay a row of one's own. -/
theorem ok11k (hn : g.ns.length ≤ 80) (h1 : 1 ≤ g.ns.length) (hi : g.is.length ≤ 80) (hx : ∀ x ∈ g.ns, x.nx.length ≤ 80 ∧ x.ws.length ≤ 80 ∧ x.ps.length ≤ 80) :
    Ok Try.prog 11 [.agg g.cells] H (.ret (.agg [i64 g.pl, .own H.length 0 g.ns.length 6 0, .slc (infs g.is) g.is.length])) (H ++ [⟨nds g.ns, 37, 0, true⟩]) := by
  refine ok_fn hm Try.func11 c11 (by simp) fun hcl => ?_
  simp -implicitDefEqProofs [i11, r11, Gm.cells, infs_len]
  have hinf : List.take (g.is.length * 2) (infs g.is) = infs g.is := List.take_of_length_le (by rw [infs_len]; omega)
  rw [hinf]
  refine ⟨by omega, infs_cell _, by omega, by omega, rfl, ?_⟩
  refine loop11 (g := g) hn hx (fun env M hM h2 h3 => ?_) g.ns.length 0 _ [] (by omega) (.inl ⟨rfl, rfl⟩) (by simp) (by simp) (by simp) (by simp)
  simp -implicitDefEqProofs [h2, h3, gbox]
  rcases hM with h0 | ⟨cs, hM5, hNO⟩
  · omega
  · have hcs := hNO.len
    have h0 : g.ns ≠ [] := by intro e; rw [e] at h1; simp at h1
    have e : nodesV (H.length + 9) g.ns.length = .own (H.length + 9) 0 g.ns.length 6 g.ns.length := by unfold nodesV; rw [if_neg (fun h => h0 (List.eq_nil_of_length_eq_zero h))]
    have hfz := hNO.fzk (n := H.length) (k := 4) (d := 3) (ks := [9]) (F := gbox g :: (⟨[i64 g.pl, nodesV (H.length + 9) g.ns.length, SV.own (H.length + 2) 0 g.is.length 2 2], 25, 0, true⟩ : AO) :: ⟨infs g.is, 34, 2, true⟩ :: ⟨[i64 g.pl, nodesV (H.length + 9) g.ns.length, SV.own (H.length + 2) 0 g.is.length 2 2], 25, 1, true⟩ :: M) rfl
      (fun p => by rw [show 4 + p = p + 1 + 1 + 1 + 1 by omega]; simp) (fun p l h => by
        have : p ≠ 5 := fun e => by subst e; rw [hM5] at h; cases h
        unfold placeOf; rw [if_neg (by omega)]; rfl)
    rw [e] at hfz ⊢
    refine ⟨rfl, cv_kp 5 [9] hcl rfl ?_ ?_ ?_⟩
    · simp [hinf, infs_len, Nat.mul_comm, hM5, placeOf]
    · simp only [gbox] at hfz
      simp [keptOk, hM5, hfz]
      exact nds_cells _
    · simp only [gbox] at hfz
      simp [keptO, hM5, hfz]
set_option maxRecDepth 10000 in
theorem loop19o {a b : List (Int × Int)} {j v : Nat} (ho : objCells H j v = infs b) (hl : a.length ≤ 100000) (hab : a.length = b.length) {N : Nat} {K : XE → Env → List AO → Prop}
    (hret : a ≠ b → ∀ env, env.get 4 = bl false → K .ret env H) (hexit : a = b → ∀ env, K (.exit 0) env H) :
    ∀ (n i : Nat) (env : Env), i + n = a.length → (∀ k (h : k < a.length), k < i → a[k] = b[k]'(by omega)) → env.get 0 = wv a → env.get 1 = .own j 0 b.length 2 v → env.get 5 = i64 i → LI Try.prog N drawB l19_0 env H K := by
  obtain ⟨v1, v2, v3, v4, v5, v6⟩ := wv_facts a
  intro n
  induction n with
  | zero =>
    intro i env hi hp h0 h1 h5
    refine li_go hm' l19_0.eq_1 ?_
    have e : i = a.length := by omega
    subst e
    simp -implicitDefEqProofs [h0, h1, h5, v1, v2, v3, v4]
    exact hexit (List.ext_getElem hab fun k h1 h2 => hp k h1 h1) _
  | succ n ih =>
    intro i env hi hp h0 h1 h5
    refine li_go hm' l19_0.eq_1 ?_
    have hlt : i < a.length := by omega
    have hlt' : i < b.length := by omega
    have hne : a ≠ [] := fun e => by subst e; simp at hlt
    have w1 : IntKind.i64.wrap ((i : Int) + 1) = ((i + 1 : Nat) : Int) := wrap_succ (by omega)
    rw [wv_ne hne] at h0
    simp -implicitDefEqProofs [h0, h1, h5, ho, hlt, hlt', infs_at hlt, infs_min hlt, infs_ge hlt, infs_at hlt', infs_min hlt', infs_ge hlt']
    by_cases hc : a[i] = b[i]
    · rw [if_neg (by rw [hc]; simp), w1]
      refine ih (i + 1) _ (by omega) ?_ ?_ ?_ ?_
      · intro k hk hki
        by_cases e : k = i
        · subst e; exact hc
        · exact hp k hk (by omega)
      all_goals simp [wv_ne hne]
    · rw [if_pos (by
        by_cases e1 : a[i].1 = b[i].1
        · exact .inr fun e2 => hc (Prod.ext e1 e2)
        · exact .inl e1)]
      exact hret (fun e => hc (by subst e; rfl)) _ (by simp)
theorem ok19o {a b : List (Int × Int)} {j v : Nat} (ho : objCells H j v = infs b) (hl : a.length ≤ 100000) (hl2 : b.length ≤ 100000) : Ok Try.prog 19 [wv a, .own j 0 b.length 2 v] H (.ret (bl (decide (a = b)))) H := by
  obtain ⟨v1, v2, v3, v4, v5, v6⟩ := wv_facts a
  refine ok_fn hm' Try.func19 c19 (by simp) fun hcl => ?_
  by_cases hab : a.length = b.length
  · simp -implicitDefEqProofs [i19, r19, v1, v2, v3, v4, hab]
    refine loop19o ho hl hab (fun hne env h4 => ?_) (fun he env => ?_) a.length 0 _ (by omega) (by omega) (by simp) (by simp) (by simp)
    · simp -implicitDefEqProofs [h4, hne]
      exact cv_id
    · simp -implicitDefEqProofs [he]
      exact cv_id
  · simp -implicitDefEqProofs [i19, r19, v1, v2, v3, v4, show ¬ ((a.length : Int) = b.length) by omega]
    have : a ≠ b := fun e => hab (by rw [e])
    simp [this]
    exact cv_id
end
/-! A game whose sets have one node each. -/
def sgl : List Nd → Nat → List Nd
  | [], _ => []
  | x :: r, c => if x.k = 2 then { x with i := c } :: sgl r (c + 1) else x :: sgl r c
def sglI : List Nd → List (Int × Int)
  | [] => []
  | x :: r => if x.k = 2 then (x.p, (x.nx.length : Int)) :: sglI r else sglI r
end Go.Proofs.Ytiikfkacbglblaa

/- S7 -/
namespace Go.Proofs.Ytiikfkacbglblaa
open Go.Ab
theorem sgl_len : ∀ (l : List Nd) (c : Nat), (sgl l c).length = l.length
  | [], c => rfl
  | x :: r, c => by unfold sgl; split <;> simp [sgl_len r]
theorem sgl_nx : ∀ (l : List Nd) (c : Nat), (sgl l c).map Nd.nx = l.map Nd.nx
  | [], c => rfl
  | x :: r, c => by unfold sgl; split <;> simp [sgl_nx r]
theorem sglI_len : ∀ (l : List Nd), (sglI l).length ≤ l.length
  | [] => Nat.le_refl _
  | x :: r => by have := sglI_len r; unfold sglI; split <;> simp <;> omega
theorem sgl_rg : ∀ (l : List Nd) (c : Nat), rg (sgl l c) c = some (c + (sglI l).length)
  | [], c => by simp [sgl, rg, sglI]
  | x :: r, c => by
    unfold sgl sglI
    by_cases h : x.k = 2
    · rw [if_pos h, if_pos h]
      simp only [rg, if_pos h, List.length_cons]
      rw [if_pos trivial, sgl_rg r (c + 1)]
      congr 1; omega
    · rw [if_neg h, if_neg h]
      simp only [rg, if_neg h]
      exact sgl_rg r c
theorem sgl_good {pl : Int} {is : List (Int × Int)} : ∀ (l : List Nd) (pre : List (Int × Int)), (∀ x ∈ l, x.good pl is) → ∀ x ∈ sgl l pre.length, x.good pl (pre ++ sglI l)
  | [], pre, h => by simp [sgl]
  | y :: r, pre, h => by
    intro x hx
    unfold sgl at hx
    by_cases hk : y.k = 2
    · rw [if_pos hk] at hx
      have e : sglI (y :: r) = (y.p, (y.nx.length : Int)) :: sglI r := by conv => lhs; unfold sglI; rw [if_pos hk]
      rw [e]
      rcases List.mem_cons.1 hx with rfl | hx
      · rcases h y (by simp) with hg | ⟨a1, a2, a3, a4, a5, a6, a7, a8, a9⟩ | hg
        · omega
        · exact .inr (.inl ⟨a1, a2, a3, a4, a5, a6, a7, by simp, by simp⟩)
        · omega
      · have := sgl_good r (pre ++ [(y.p, (y.nx.length : Int))]) (fun x hx => h x (by simp [hx])) x (by simpa using hx)
        simpa using this
    · rw [if_neg hk] at hx
      have e : sglI (y :: r) = sglI r := by conv => lhs; unfold sglI; rw [if_neg hk]
      rw [e]
      rcases List.mem_cons.1 hx with rfl | hx
      · rcases h x (by simp) with hg | hg | hg
        · exact .inl hg
        · exact absurd hg.1 hk
        · exact .inr (.inr hg)
      · exact sgl_good r pre (fun x hx => h x (by simp [hx])) x hx
theorem sglI_mem : ∀ {l : List Nd} {q : Int × Int}, q ∈ sglI l → ∃ x ∈ l, x.k = 2 ∧ q = (x.p, (x.nx.length : Int))
  | [], q, h => by simp [sglI] at h
  | y :: r, q, h => by
    unfold sglI at h
    by_cases hk : y.k = 2
    · rw [if_pos hk] at h
      rcases List.mem_cons.1 h with rfl | h
      · exact ⟨y, by simp, hk, rfl⟩
      · obtain ⟨x, h1, h2⟩ := sglI_mem h
        exact ⟨x, by simp [h1], h2⟩
    · rw [if_neg hk] at h
      obtain ⟨x, h1, h2⟩ := sglI_mem h
      exact ⟨x, by simp [h1], h2⟩
theorem sgl_occ : ∀ (l : List Nd) (c o t : Nat), (t < c → occ t (sgl l c) o = []) ∧ (occ t (sgl l c) o).length ≤ 1
  | [], c, o, t => by simp [sgl, occ]
  | x :: r, c, o, t => by
    unfold sgl
    by_cases hk : x.k = 2
    · rw [if_pos hk]
      obtain ⟨h1, h2⟩ := sgl_occ r (c + 1) (o + 1) t
      simp only [occ, hk, Int.toNat_natCast, true_and]
      by_cases e : c = t
      · rw [if_pos e, h1 (by omega)]
        exact ⟨fun h => by omega, by simp⟩
      · rw [if_neg e]
        exact ⟨fun h => h1 (by omega), h2⟩
    · rw [if_neg hk]
      obtain ⟨h1, h2⟩ := sgl_occ r c (o + 1) t
      simp only [occ, hk, false_and, if_false]
      exact ⟨h1, h2⟩
def Gm.single (g : Gm) : Gm := ⟨g.pl, sgl g.ns 0, sglI g.ns⟩
theorem Made.single {pl most : Int} {g : Gm} (h : Made pl most g) : Made pl most g.single := by
  have hl := sgl_len g.ns 0
  refine ⟨h.pl, by show 1 ≤ (sgl g.ns 0).length; rw [hl]; exact h.n1, by show ((sgl g.ns 0).length : Int) ≤ most; rw [hl]; exact h.ml, by show (sglI g.ns).length ≤ (sgl g.ns 0).length; rw [hl]; exact sglI_len _, h.wlk.nx (sgl_nx _ _).symm, ?_, ?_, ?_⟩
  · intro x hx
    have := sgl_good (is := g.is) (pl := pl) g.ns [] h.good x hx
    rw [List.nil_append] at this; exact this
  · have := sgl_rg g.ns 0
    rw [Nat.zero_add] at this; exact this
  · intro q hq
    obtain ⟨x, h1, h2, rfl⟩ := sglI_mem hq
    rcases h.good x h1 with hg | ⟨a1, a2, a3, a4, a5, a6, a7, a8, a9⟩ | hg
    · omega
    · exact h.isr _ (List.mem_of_getElem? a9)
    · omega
/-- Single sets have no flaws. -/
theorem single_flaws {g : Gm} (hW : Wg g.single) : g.single.flaws = [] := by
  apply List.eq_nil_iff_forall_not_mem.2
  intro f hf
  have hi := flaws_info hf
  have ht : f.i.toNat < g.single.is.length := by omega
  obtain ⟨k1, k2, v, hv, hne⟩ := (flaws_bad hW ht).1 ⟨f, hf, by omega⟩
  rw [sets_occ k1] at hv hne
  have h1 := (sgl_occ g.ns 0 0 f.i.toNat).2
  have e : occ f.i.toNat g.single.ns 0 = occ f.i.toNat (sgl g.ns 0) 0 := rfl
  rw [e] at hv hne
  match hh : occ f.i.toNat (sgl g.ns 0) 0, h1 with
  | [], _ => rw [hh] at hv; simp at hv
  | [a], _ => rw [hh] at hv hne; simp at hv; subst hv; exact hne rfl
  | a :: b :: r, h1 => simp at h1
section
variable {g : Gm}
/-- The way to a child. -/
theorem way_child (hW : Wg g) {pl : Int} {p i : Nat} (hp : p < g.ns.length) (hi : i < g.ns[p].nx.length) {c : Nat} (hc : g.ns[p].nx[i] = c) :
    g.way c pl = if g.ns[p].k = 2 ∧ g.ns[p].p = pl then g.way p pl ++ [(g.ns[p].i, (i : Int))] else g.way p pl := by
  have hn := hW.wf.nf p hp
  have hmem : (c : Int) ∈ g.ns[p].nx := by rw [← hc]; exact List.getElem_mem hi
  obtain ⟨c1, c2, c3, c4⟩ := hn.ch _ hmem
  obtain ⟨k, hk, e1, e2, e3⟩ := fstAt_of hn.inc hmem
  have ek : i = k := e3 i hi hc
  subst ek
  have hcl : c < g.ns.length := by omega
  have hP : gi g.wk.2.P c = p := by simpa using c3
  obtain ⟨n, hnn⟩ : ∃ n, g.ns.length = n + 1 := ⟨g.ns.length - 1, by omega⟩
  have h1 : g.up c pl = upf g pl (n + 1) c [] := by unfold Gm.up; rw [hnn]; rfl
  have h2 : g.up p pl = upf g pl (n + 1) p [] := by unfold Gm.up; rw [hnn]; rfl
  unfold Gm.way
  rw [h1, h2]
  unfold upf
  rw [up_step hW hp hP]
  have h3 := upf_fuel hW (pl := pl) n (n + 1) p [] (by omega) (by omega) hp
  have h4 := fun l => upf_app hW (pl := pl) n p l (by omega) hp
  unfold upf at h3 h4
  by_cases hc2 : g.ns[p].k = 2 ∧ g.ns[p].p = pl
  · rw [if_pos hc2, if_pos hc2, h4, e2, h3]
    simp
  · rw [if_neg hc2, if_neg hc2, h3]
theorem way_root (hW : Wg g) {pl : Int} : g.way 0 pl = [] := by
  have := hW.gd.n1
  obtain ⟨n, hnn⟩ : ∃ n, g.ns.length = n + 1 := ⟨g.ns.length - 1, by omega⟩
  unfold Gm.way
  have h1 : g.up 0 pl = upf g pl (n + 1) 0 [] := by unfold Gm.up; rw [hnn]; rfl
  rw [h1, upf_root hW]; rfl
end
end Go.Proofs.Ytiikfkacbglblaa

/- S8 -/
namespace Go.Proofs.Ytiikfkacbglblaa
open Go.Ab
section
variable {g : Gm} {H : List AO}
def xbN (x : Nd) : AO := ⟨x.cells, 37, 0, true⟩
set_option maxRecDepth 10000 in
theorem loop8_1 (hF : g.formE = 0) (hW : Wg g) {t : Nat} (ht : t < g.ns.length) {pl np : Int} (p0 : 0 ≤ pl) (p1 : pl < g.pl) {e9 : SV} {N : Nat} {K : XE → Env → List AO → Prop}
    (hexit : ∀ env L, env.get 1 = i64 np → env.get 3 = i64 t → env.get 9 = e9 → env.get 10 = .ptr (.own H.length 0 0 0 0) 0 → env.get 11 = .ptr (.own (H.length + 1) 0 0 0 0) 0 → env.get 12 = i64 pl → K (.exit 2) env (H ++ gbox g :: xbN g.ns[t] :: L)) :
    ∀ (n i : Nat) (env : Env) (L : List AO), i + n = g.ns[t].nx.length → env.get 1 = i64 np → env.get 3 = i64 t → env.get 9 = e9 → env.get 10 = .ptr (.own H.length 0 0 0 0) 0 → env.get 11 = .ptr (.own (H.length + 1) 0 0 0 0) 0 → env.get 12 = i64 pl → env.get 13 = wv (g.way t pl) → env.get 15 = i64 i →
      LI Try.prog N drawB l8_1 env (H ++ gbox g :: xbN g.ns[t] :: L) K := by
  have hgn := hW.gd.n
  have hx60 := nx_of (hW.gd.e _ (List.getElem_mem ht))
  have wl : ∀ v, (g.way v pl).length ≤ 2000 := fun v => by have := way_len (g := g) (node := v) (pl := pl); omega
  obtain ⟨v1, v2, v3, v4, v5, v6⟩ := wv_facts (g.way t pl)
  intro n
  induction n with
  | zero =>
    intro i env L hi h1 h3 h9 h10 h11 h12 h13 h15
    refine li_go hm' l8_1.eq_1 ?_
    have e : i = g.ns[t].nx.length := by omega
    subst e
    simp -implicitDefEqProofs [h1, h3, h9, h10, h11, h12, h13, h15, gbox, xbN, Nd.cells, sl]
    refine K_cong (H' := H ++ gbox g :: xbN g.ns[t] :: L) (by simp [gbox, xbN, Nd.cells, sl]) (hexit _ L ?_ ?_ ?_ ?_ ?_ ?_) <;> simp [h1, h3, h9, h10, h11, h12]
  | succ n ih =>
    intro i env L hi h1 h3 h9 h10 h11 h12 h13 h15
    refine li_go hm' l8_1.eq_1 ?_
    have hlt : i < g.ns[t].nx.length := by omega
    have w1 : IntKind.i64.wrap ((i : Int) + 1) = ((i + 1 : Nat) : Int) := wrap_succ (by omega)
    have hch := (hW.wf.nf t ht).ch _ (List.getElem_mem hlt)
    obtain ⟨c, hc⟩ : ∃ c : Nat, g.ns[t].nx[i] = c := ⟨(g.ns[t].nx[i]).toNat, by omega⟩
    have hcl : c < g.ns.length := by omega
    have hway := way_child hW (pl := pl) ht hlt hc
    have hrow : ∀ G, SV.row G (wv (g.way t pl)) = infs (g.way t pl) := fun G => by
      by_cases hw : g.way t pl = []
      · rw [hw]; rfl
      · rw [wv_ne hw]; rfl
    have htk : List.take ((g.way t pl).length * 2) (infs (g.way t pl)) = infs (g.way t pl) := List.take_of_length_le (by rw [infs_len]; omega)
    have q0 := ints_get hlt
    rw [List.getD_eq_getElem?_getD, List.getElem?_eq_getElem hlt, Option.getD_some, hc] at q0
    have wlt := wl t
    have hil : (infs (g.way t pl)).length = (g.way t pl).length * 2 := by rw [infs_len]; omega
    have hic := infs_cell (g.way t pl)
    by_cases hk : g.ns[t].k = 2 ∧ g.ns[t].p = pl
    · rw [if_pos hk] at hway
      simp -implicitDefEqProofs [h1, h3, h9, h10, h11, h12, h13, h15, gbox, xbN, Nd.cells, sl, hlt, hk.1, hk.2, v1, v2, v3, v4, hrow, htk, hil, q0, hc, Nat.add_assoc]
      refine ⟨hic, by omega, by omega, by omega, by omega, by omega, ?_⟩
      refine callq_go (fun _ => way_ok (g := g) hF hcl p0 p1) ?_
      simp -implicitDefEqProofs [h1, h3, h9, h10, h11, h12, h13, h15, (Pl.wv _).vd, (Pl.wv _).ug, v4, hrow, htk]
      have ew : infs (g.way t pl ++ [(g.ns[t].i, (i : Int))]) = infs (g.way t pl) ++ [i64 g.ns[t].i, i64 i] := by rw [infs_rws, infs_rws, rws_app]; rfl
      refine callq_st (r := bl true) (fun _ => ?_) ?_
      · simp only [List.map_cons, List.map_nil, SV.strip, (Pl.wv _).st]
        have := ok19o (H := H ++ ⟨[i64 g.pl, .slc (nds g.ns) g.ns.length, .slc (infs g.is) g.is.length], 25, 0, true⟩ :: ⟨[i64 2, i64 pl, i64 g.ns[t].i, .slc (ints g.ns[t].nx) g.ns[t].nx.length, .slc (ints g.ns[t].ws) g.ns[t].ws.length, .slc (ints g.ns[t].ps) g.ns[t].ps.length], 37, 0, true⟩ :: (L ++ [⟨infs (g.way t pl) ++ [i64 g.ns[t].i, i64 i], 47, 2, true⟩, ⟨[i64 g.ns[t].i, i64 i], 47, 0, true⟩]))
          (a := g.way c pl) (b := g.way t pl ++ [(g.ns[t].i, (i : Int))]) (j := H.length + (L.length + 2)) (v := 2) (by rw [ew]; simp) (by have := wl c; omega) (by simp; omega)
        rw [hway] at this ⊢
        simpa using this
      · simp -implicitDefEqProofs [h1, h3, h9, h10, h11, h12, h13, h15, w1]
        refine LI.cong (H' := H ++ gbox g :: xbN g.ns[t] :: (L ++ [⟨infs (g.way t pl) ++ [i64 g.ns[t].i, i64 i], 47, 2, true⟩, ⟨[i64 g.ns[t].i, i64 i], 47, 0, true⟩])) (by simp [gbox, xbN, Nd.cells, sl, hk.1, hk.2]) (ih (i + 1) _ _ (by omega) ?_ ?_ ?_ ?_ ?_ ?_ ?_ ?_)
        all_goals simp [h1, h3, h9, h10, h11, h12, h13]
    · rw [if_neg hk] at hway
      simp -implicitDefEqProofs [h1, h3, h9, h10, h11, h12, h13, h15, gbox, xbN, Nd.cells, sl, hlt, v1, v2, v3, v4, hrow, htk, hil, q0, hc, Nat.add_assoc, hk]
      refine ⟨hic, by omega, by omega, by omega, ?_⟩
      refine callq_go (fun _ => way_ok (g := g) hF hcl p0 p1) ?_
      simp -implicitDefEqProofs [h1, h3, h9, h10, h11, h12, h13, h15, (Pl.wv _).vd, (Pl.wv _).ug, v4, hrow, htk]
      refine callq_st (r := bl true) (fun _ => ?_) ?_
      · simp only [List.map_cons, List.map_nil, SV.strip, (Pl.wv _).st]
        have := ok19o (H := H ++ ⟨[i64 g.pl, .slc (nds g.ns) g.ns.length, .slc (infs g.is) g.is.length], 25, 0, true⟩ :: ⟨[i64 g.ns[t].k, i64 g.ns[t].p, i64 g.ns[t].i, .slc (ints g.ns[t].nx) g.ns[t].nx.length, .slc (ints g.ns[t].ws) g.ns[t].ws.length, .slc (ints g.ns[t].ps) g.ns[t].ps.length], 37, 0, true⟩ :: (L ++ [⟨infs (g.way t pl), 47, 1, true⟩]))
          (a := g.way c pl) (b := g.way t pl) (j := H.length + (L.length + 2)) (v := 1) (by simp) (by have := wl c; omega) (by omega)
        rw [hway] at this ⊢
        simpa using this
      · simp -implicitDefEqProofs [h1, h3, h9, h10, h11, h12, h13, h15, w1]
        refine LI.cong (H' := H ++ gbox g :: xbN g.ns[t] :: (L ++ [⟨infs (g.way t pl), 47, 1, true⟩])) (by simp [gbox, xbN, Nd.cells, sl]) (ih (i + 1) _ _ (by omega) ?_ ?_ ?_ ?_ ?_ ?_ ?_ ?_)
        all_goals simp [h1, h3, h9, h10, h11, h12, h13]
end
end Go.Proofs.Ytiikfkacbglblaa

/- S9 -/
namespace Go.Proofs.Ytiikfkacbglblaa
open Go.Ab
theorem sgl_snoc : ∀ (l : List Nd) (x : Nd) (c : Nat), sgl (l ++ [x]) c = sgl l c ++ [if x.k = 2 then { x with i := ((c + (sglI l).length : Nat) : Int) } else x]
  | [], x, c => by simp only [List.nil_append, sgl, sglI, List.length_nil, Nat.add_zero]; split <;> rfl
  | y :: r, x, c => by
    simp only [List.cons_append, sgl, sglI]
    by_cases hy : y.k = 2
    · rw [if_pos hy, if_pos hy, if_pos hy, sgl_snoc r x (c + 1)]
      simp only [List.cons_append, List.length_cons]
      rw [show c + 1 + (sglI r).length = c + ((sglI r).length + 1) by omega]
    · rw [if_neg hy, if_neg hy, if_neg hy, sgl_snoc r x c]
      rfl
theorem sglI_snoc : ∀ (l : List Nd) (x : Nd), sglI (l ++ [x]) = sglI l ++ (if x.k = 2 then [(x.p, (x.nx.length : Int))] else [])
  | [], x => by simp only [List.nil_append, sglI]
  | y :: r, x => by
    simp only [List.cons_append, sglI]
    by_cases hy : y.k = 2
    · rw [if_pos hy, if_pos hy, sglI_snoc r x]; rfl
    · rw [if_neg hy, if_neg hy, sglI_snoc r x]
theorem cells_len (x : Nd) : x.cells.length = 6 := rfl
section
variable {g : Gm} {H G : List AO}
set_option maxRecDepth 10000 in
theorem loop8_0 (hF : g.formE = 0) (hW : Wg g) {t : Nat} (ht : t < g.ns.length) {e9 : SV} {N : Nat} {K : XE → Env → List AO → Prop}
    (hexit : ∀ env L, env.get 9 = e9 → env.get 10 = .ptr (.own H.length 0 0 0 0) 0 → K (.exit 0) env (H ++ gbox g :: xbN g.ns[t] :: L)) :
    ∀ (n p : Nat) (env : Env) (L : List AO), (p : Int) + n = g.pl → env.get 1 = i64 g.pl → env.get 3 = i64 t → env.get 9 = e9 → env.get 10 = .ptr (.own H.length 0 0 0 0) 0 → env.get 11 = .ptr (.own (H.length + 1) 0 0 0 0) 0 → env.get 12 = i64 p →
      LI Try.prog N drawB l8_0 env (H ++ gbox g :: xbN g.ns[t] :: L) K := by
  intro n
  induction n with
  | zero =>
    intro p env L hp h1 h3 h9 h10 h11 h12
    refine li_go hm' l8_0.eq_1 ?_
    simp -implicitDefEqProofs [h1, h3, h9, h10, h11, h12, show ¬ ((p : Int) < g.pl) by omega]
    refine hexit _ L ?_ ?_ <;> simp [h9, h10]
  | succ n ih =>
    intro p env L hp h1 h3 h9 h10 h11 h12
    refine li_go hm' l8_0.eq_1 ?_
    have hlt : (p : Int) < g.pl := by omega
    have hp4 := hW.gd.p4
    have w1 : IntKind.i64.wrap ((p : Int) + 1) = ((p + 1 : Nat) : Int) := wrap_succ (by omega)
    have h0 : t = 0 → (wv (g.way t p)).slen = 0 := fun e => by subst e; rw [way_root hW]; rfl
    have hsl : (wv (g.way t p)).isSl = true := (wv_facts _).2.2.1
    simp -implicitDefEqProofs [h1, h3, h9, h10, h11, h12, hlt, gbox]
    refine call_go (way_ok (g := g) hF ht (by omega) hlt) ?_
    have hfin : ∀ env, env.get 1 = i64 g.pl → env.get 3 = i64 t → env.get 9 = e9 → env.get 10 = .ptr (.own H.length 0 0 0 0) 0 → env.get 11 = .ptr (.own (H.length + 1) 0 0 0 0) 0 → env.get 12 = i64 p → env.get 13 = wv (g.way t p) → env.get 15 = i64 0 →
        ∀ K' : XE → Env → List AO → Prop, (∀ (env : Env) (L : List AO), env.get 12 = i64 p → LI Try.prog N drawB l8_0 ((12, i64 ((p + 1 : Nat) : Int)) :: (55, i64 ((p + 1 : Nat) : Int)) :: (54, i64 p) :: env) (H ++ gbox g :: xbN g.ns[t] :: L) K → K' (.exit 2) env (H ++ gbox g :: xbN g.ns[t] :: L)) →
        LI Try.prog N drawB l8_1 env (H ++ gbox g :: xbN g.ns[t] :: L) K' := by
      intro env g1 g3 g9 g10 g11 g12 g13 g15 K' hK'
      refine loop8_1 hF hW ht (by omega) hlt (fun env L k1 k3 k9 k10 k11 k12 => hK' env L k12 (ih (p + 1) _ L (by omega) ?_ ?_ ?_ ?_ ?_ ?_)) g.ns[t].nx.length 0 env L (by omega) g1 g3 g9 g10 g11 g12 g13 (by simpa using g15)
      all_goals simp [k1, k3, k9, k10, k11]
    by_cases ht0 : t = 0
    · subst ht0
      have h0' := h0 rfl
      simp -implicitDefEqProofs [h1, h3, h9, h10, h11, h12, hlt, (Pl.wv _).vd, (Pl.wv _).ug, hsl, h0']
      refine LI.cong (H' := H ++ gbox g :: xbN g.ns[0] :: L) (by simp [gbox]) (hfin _ ?_ ?_ ?_ ?_ ?_ ?_ ?_ ?_ _ (fun env L g12 hL => by simp -implicitDefEqProofs [g12, w1]; exact hL))
      all_goals simp [h1, h3, h9, h10, h11, h12]
    · simp -implicitDefEqProofs [h1, h3, h9, h10, h11, h12, hlt, (Pl.wv _).vd, (Pl.wv _).ug, hsl, show ¬ ((t : Int) = 0) by omega, ht0]
      trace_state
      refine LI.cong (H' := H ++ gbox g :: xbN g.ns[t] :: L) (by simp [gbox]) (hfin _ ?_ ?_ ?_ ?_ ?_ ?_ ?_ ?_ _ (fun env L g12 hL => by simp -implicitDefEqProofs [g12, w1]; exact hL))
      all_goals simp [h1, h3, h9, h10, h11, h12]
end
end Go.Proofs.Ytiikfkacbglblaa

/- S10 -/
namespace Go.Proofs.Ytiikfkacbglblaa
open Go.Ab
def shp (G : List AO) (pl : Int) (ns : List Nd) (is : List (Int × Int)) (L : List AO) : List AO :=
  G ++ ⟨rws Nd.cells ns, 37, 0, true⟩ :: ⟨[i64 pl, .own G.length 0 ns.length 6 0, .own (G.length + 2) 0 is.length 2 is.length], 25, 0, true⟩ :: ⟨rws icN is, 34, is.length, true⟩ :: L
section
variable {g : Gm} {G : List AO}
set_option maxRecDepth 10000 in
theorem loop8_2 (hn : g.ns.length ≤ 10000) {e9 : SV} {N : Nat} {K : XE → Env → List AO → Prop}
    (hexit : ∀ env L, env.get 9 = e9 → env.get 19 = .ptr (.own (G.length + 1) 0 0 0 0) 0 → K (.exit 4) env (shp G g.pl (sgl g.ns 0) (sglI g.ns) L)) :
    ∀ (n i : Nat) (env : Env) (L : List AO), i + n = g.ns.length → env.get 9 = e9 → env.get 19 = .ptr (.own (G.length + 1) 0 0 0 0) 0 → env.get 20 = i64 i →
      LI Try.prog N drawB l8_2 env (shp G g.pl (sgl (g.ns.take i) 0 ++ g.ns.drop i) (sglI (g.ns.take i)) L) K := by
  intro n
  induction n with
  | zero =>
    intro i env L hi h9 h19 h20
    refine li_go hm' l8_2.eq_1 ?_
    have e : i = g.ns.length := by omega
    subst e
    simp -implicitDefEqProofs [h9, h19, h20, shp, sgl_len]
    refine K_cong (H' := shp G g.pl (sgl g.ns 0) (sglI g.ns) L) (by simp [shp, sgl_len]) (hexit _ L ?_ ?_) <;> simp [h9, h19]
  | succ n ih =>
    intro i env L hi h9 h19 h20
    refine li_go hm' l8_2.eq_1 ?_
    have hlt : i < g.ns.length := by omega
    have hstep : ∀ (env : Env) (L : List AO), env.get 9 = e9 → env.get 19 = .ptr (.own (G.length + 1) 0 0 0 0) 0 → env.get 20 = i64 ((i + 1 : Nat) : Int) →
        LI Try.prog N drawB l8_2 env (shp G g.pl (sgl (g.ns.take (i + 1)) 0 ++ g.ns.drop (i + 1)) (sglI (g.ns.take (i + 1))) L) K := fun env L k9 k19 k20 => ih (i + 1) env L (by omega) k9 k19 k20
    have hil := sglI_len (g.ns.take i)
    have hil2 : (g.ns.take i).length = i := by simp; omega
    generalize hI : sglI (g.ns.take i) = I at *
    generalize hns : sgl (g.ns.take i) 0 ++ g.ns.drop i = ns
    have hnl : ns.length = g.ns.length := by rw [← hns]; simp [sgl_len]; omega
    have hlt' : i < ns.length := by omega
    have hni : ns[i] = g.ns[i] := by simp only [← hns]; rw [List.getElem_append_right (by simp [sgl_len]; omega)]; simp [sgl_len, Nat.min_eq_left (Nat.le_of_lt hlt)]
    have d := rws_at cells_len hlt'
    have d1 := rws_ge cells_len hlt'
    have d2 := rws_min cells_len hlt'
    have ec : ∀ x : Nd, x.cells = [i64 x.k, i64 x.p, i64 x.i, sl x.nx, sl x.ws, sl x.ps] := fun _ => rfl
    rw [ec, List.cons_append, List.cons_append, List.cons_append, List.cons_append, List.cons_append, List.cons_append, List.nil_append] at d
    have w1 : IntKind.i64.wrap ((i : Int) + 1) = ((i + 1 : Nat) : Int) := wrap_succ (by omega)
    have z0 := rws_len icN_len I
    have hnext : sgl (g.ns.take (i + 1)) 0 ++ g.ns.drop (i + 1) = ns.set i (if g.ns[i].k = 2 then { g.ns[i] with i := (I.length : Int) } else g.ns[i]) := by
      rw [← hns, List.set_append_right _ _ (by simp [sgl_len]; omega)]
      have e0 : i - (sgl (g.ns.take i) 0).length = 0 := by simp [sgl_len]; omega
      rw [e0, List.drop_eq_getElem_cons hlt, List.set_cons_zero, List.take_succ_eq_append_getElem hlt, sgl_snoc, hI]
      simp only [List.append_assoc, List.cons_append, List.nil_append, Nat.zero_add]
    have hnextI : sglI (g.ns.take (i + 1)) = I ++ (if g.ns[i].k = 2 then [(g.ns[i].p, (g.ns[i].nx.length : Int))] else []) := by
      rw [List.take_succ_eq_append_getElem hlt, sglI_snoc, hI]
    rw [hnext, hnextI] at hstep
    by_cases hc : g.ns[i].k = 2
    · rw [if_pos hc, if_pos hc] at hstep
      have es := rws_set1 cells_len (t := 2) hlt' (by omega) (c := i64 (I.length : Int)) (x := { g.ns[i] with i := (I.length : Int) }) (by rw [hni]; rfl)
      simp -implicitDefEqProofs [h9, h19, h20, shp, hlt', d, d1, d2, hnl, hlt, hni, hc, sl, z0]
      have hIl : I.length ≤ i := by rw [hil2] at hil; exact hil
      refine ⟨by omega, by omega, by omega, ?_⟩
      refine LI.cong (H' := shp G g.pl (ns.set i { g.ns[i] with i := (I.length : Int) }) (I ++ [(g.ns[i].p, (g.ns[i].nx.length : Int))]) (L ++ [⟨[i64 2, i64 g.ns[i].p, i64 g.ns[i].i, sl g.ns[i].nx, sl g.ns[i].ws, sl g.ns[i].ps], 37, 0, true⟩, ⟨[i64 g.ns[i].p, i64 g.ns[i].nx.length], 34, 0, true⟩])) ?_ (hstep _ _ ?_ ?_ ?_)
      · simp only [shp, ← es, List.length_set, hnl]
        simp [sl, rws_app, rws, icN]
      all_goals simp [h9, h19, w1]
    · rw [if_neg hc, if_neg hc] at hstep
      have es : ns.set i g.ns[i] = ns := by rw [← hni]; exact List.set_getElem_self hlt'
      simp -implicitDefEqProofs [h9, h19, h20, shp, hlt', d, d1, d2, hnl, hlt, hni, hc, sl]
      refine LI.cong (H' := shp G g.pl (ns.set i g.ns[i]) (I ++ []) (L ++ [⟨[i64 g.ns[i].k, i64 g.ns[i].p, i64 g.ns[i].i, sl g.ns[i].nx, sl g.ns[i].ws, sl g.ns[i].ps], 37, 0, true⟩])) ?_ (hstep _ _ ?_ ?_ ?_)
      · rw [es]; simp [shp, hnl, sl]
      all_goals simp [h9, h19, w1]
/-- RecallWays, as far as its code goes. -/
theorem ok8 {H : List AO} {l more : List Int} (pl node : Int) : Ok Try.prog 8 [.slc (ints l) l.length, i64 pl, .slc (ints more) more.length, i64 node] H (.ret (bl true)) H := by
  refine ok_fn hm' Try.func8 c8 (by simp) fun hcl => ?_
  by_cases hlong : 200 < (l.length : Int) ∨ 60 < (more.length : Int)
  · simp -implicitDefEqProofs [i8, r8]
    refine call_go ok4' ?_
    simp -implicitDefEqProofs [hlong]
    exact cv_id
  · simp -implicitDefEqProofs [i8, r8]
    refine call_go ok4' ?_
    simp -implicitDefEqProofs [hlong]
    have hr := Int.emod_nonneg pl (show (3 : Int) ≠ 0 by omega)
    have hr2 := Int.emod_lt_of_pos pl (show 0 < (3 : Int) by omega)
    refine call_go (ok34 pl 3 (by omega) (by omega)) ?_
    have w1 : IntKind.i64.wrap (1 + pl % 3) = 1 + pl % 3 := wrap_id (by omega) (by omega)
    simp -implicitDefEqProofs [w1]
    refine call_goP (ok35 (by omega) (by omega) (by omega) (by omega)) ?_
    rintro o G' ⟨g, hm, rfl, rfl⟩
    have hF := hm.form (by omega) (by omega) (by omega)
    have hW := wg_of hF
    have hpl := hm.pl
    have hgl := hm.ml
    have hg1 := hm.n1
    have hil := hm.il
    have hxx : ∀ x ∈ g.ns, x.nx.length ≤ 80 ∧ x.ws.length ≤ 80 ∧ x.ps.length ≤ 80 := fun x hx => by
      rcases hm.good x hx with ⟨_, _, _, a, _, b, c, _⟩ | ⟨_, a, b, _, c, _⟩ | ⟨_, _, _, a, b, c, _⟩
      · rw [a, c]; refine ⟨by omega, by omega, by simp⟩
      · rw [a, b]; refine ⟨by omega, by simp, by simp⟩
      · rw [a, b]; refine ⟨by simp, by simp, by omega⟩
    obtain ⟨t, ht0, ht⟩ : ∃ t : Nat, t < g.ns.length ∧ node % (g.ns.length : Int) = t := by
      have a1 := Int.emod_nonneg node (show (g.ns.length : Int) ≠ 0 by omega)
      have a2 := Int.emod_lt_of_pos node (show 0 < (g.ns.length : Int) by omega)
      exact ⟨(node % (g.ns.length : Int)).toNat, by omega, by omega⟩
    simp -implicitDefEqProofs [Gm.cells, w1]
    refine call_go (ok34 node (g.ns.length : Int) (by omega) (by omega)) ?_
    have d := rws_at cells_len ht0
    have d1 := rws_ge cells_len ht0
    have d2 := rws_min cells_len ht0
    have ec : ∀ x : Nd, x.cells = [i64 x.k, i64 x.p, i64 x.i, sl x.nx, sl x.ws, sl x.ps] := fun _ => rfl
    rw [ec, List.cons_append, List.cons_append, List.cons_append, List.cons_append, List.cons_append, List.cons_append, List.nil_append] at d
    simp -implicitDefEqProofs [ht, Gm.cells, w1, nds_rws, d, d1, d2, ht0, sl]
    refine LI.cong (H' := G' ++ gbox g :: xbN g.ns[t] :: []) (by simp [gbox, xbN, Nd.cells, nds_rws, sl]) (loop8_0 (g := g) (H := G') hF hW ht0 (e9 := bl true) (fun env L k9 k10 => ?_) g.pl.toNat 0 _ [] (by omega) ?_ ?_ ?_ ?_ ?_ ?_)
    · have o11 := ok11k (H := G' ++ gbox g :: xbN g.ns[t] :: L) (g := g) (by omega) hg1 (by omega) hxx
      simp only [Gm.cells, gbox] at o11
      simp -implicitDefEqProofs [k9, k10, gbox]
      refine call_go o11 ?_
      simp -implicitDefEqProofs [k9, k10, Nat.add_assoc]
      refine ⟨rfl, LI.tell (Tell.own0 (j := G'.length + (L.length + 3)) (p := 2) (o := ⟨[i64 g.pl, .own (G'.length + (L.length + 2)) 0 g.ns.length 6 0, .val (.slice none 0 0)], 25, 0, true⟩) ?_ rfl rfl 34 2)
        (LI.cong (H' := shp (G' ++ gbox g :: xbN g.ns[t] :: L) g.pl (sgl (g.ns.take 0) 0 ++ g.ns.drop 0) (sglI (g.ns.take 0)) []) ?_
          (loop8_2 (g := g) (G := G' ++ gbox g :: xbN g.ns[t] :: L) (by omega) (e9 := bl true) (fun env L2 k9 k19 => ?_) g.ns.length 0 _ [] (by omega) ?_ ?_ ?_))⟩
      · simp [get_app]
      · simp [shp, sgl, sglI, rws, gbox, nds_rws, set_app, Nat.add_assoc]
      · have hms := hm.single
        have hFs := hms.form (by omega) (by omega) (by omega)
        have hWs := wg_of hFs
        have hfl := single_flaws hWs
        have hsn : (sgl g.ns 0).length = g.ns.length := sgl_len _ _
        simp -implicitDefEqProofs [k9, k19, shp, Nat.add_assoc, hsn]
        refine call_goP (OkP.give (G'.length + (L.length + 2)) 2 (o := ⟨rws Nd.cells (sgl g.ns 0), 37, 0, true⟩) ?_ rfl (OkP.give (G'.length + (L.length + 4)) 2 (o := ⟨rws icN (sglI g.ns), 34, (sglI g.ns).length, true⟩) ?_ rfl
          (OkP.cast (args' := [.agg g.single.cells]) ?_ rfl (ok17 (g := g.single)).toP))) ?_
        · simp [get_app]
        · simp [get_app, set_app]
        · have zz := rws_len cells_len (sgl g.ns 0)
          have z2 := rws_len icN_len (sglI g.ns)
          rw [hsn] at zz
          simp [Gm.cells, Gm.single, nds_rws, infs_rws, hsn, zz, z2, List.take_of_length_le]
        rintro o Hx ⟨rfl, rfl⟩
        simp -implicitDefEqProofs [k9, Gm.flawsV, Gm.out, hFs, hfl]
        exact ⟨⟨rfl, rfl⟩, cv_fz 2 hcl rfl (by simp; rfl)⟩
      all_goals simp [k9, Nat.add_assoc]
    all_goals simp [hpl]
end
end Go.Proofs.Ytiikfkacbglblaa

