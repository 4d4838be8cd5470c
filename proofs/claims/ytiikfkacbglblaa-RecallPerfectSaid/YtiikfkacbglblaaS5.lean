/-
  Steps of the proof: contracts of functions and plain facts that the statement rests on.
-/
import Derived.Test.YtiikfkacbglblaaPart2
import Derived.Test.YtiikfkacbglblaaRk
set_option linter.all false
namespace Go.Proofs.Ytiikfkacbglblaa
open Go.Ab
theorem ok4' {H : List AO} : Ok Try.prog 4 [] H (.ret (bl true)) H := ok_lift known4 rfl
section
variable {g : Gm} {H : List AO}
set_option maxRecDepth 10000 in
theorem loop19g {a b : List (Int × Int)} (hl : a.length ≤ 100000) (hab : a.length = b.length) {N : Nat} {K : XE → Env → List AO → Prop}
    (hret : a ≠ b → ∀ env, env.get 4 = bl false → K .ret env H) (hexit : a = b → ∀ env, K (.exit 0) env H) :
    ∀ (n i : Nat) (env : Env), i + n = a.length → (∀ k (h : k < a.length), k < i → a[k] = b[k]'(by omega)) → env.get 0 = wv a → env.get 1 = wv b → env.get 5 = i64 i → LI Try.prog N drawB l19_0 env H K := by
  obtain ⟨v1, v2, v3, v4, v5, v6⟩ := wv_facts a
  obtain ⟨u1, u2, u3, u4, u5, u6⟩ := wv_facts b
  intro n
  induction n with
  | zero =>
    intro i env hi hp h0 h1 h5
    refine li_go hm' l19_0.eq_1 ?_
    have e : i = a.length := by omega
    subst e
    simp -implicitDefEqProofs [h0, h1, h5, v1, v2, v3, v4]
    exact hexit (List.ext_getElem hab fun k h1 h2 => hp k h1 h1) _
  | succ n ih =>
    intro i env hi hp h0 h1 h5
    refine li_go hm' l19_0.eq_1 ?_
    have hlt : i < a.length := by omega
    have hlt' : i < b.length := by omega
    have hne : a ≠ [] := fun e => by subst e; simp at hlt
    have hne' : b ≠ [] := fun e => by subst e; simp at hlt'
    have w1 : IntKind.i64.wrap ((i : Int) + 1) = ((i + 1 : Nat) : Int) := wrap_succ (by omega)
    rw [wv_ne hne] at h0
    rw [wv_ne hne'] at h1
    simp -implicitDefEqProofs [h0, h1, h5, hlt, hlt', infs_at hlt, infs_min hlt, infs_ge hlt, infs_at hlt', infs_min hlt', infs_ge hlt']
    by_cases hc : a[i] = b[i]
    · rw [if_neg (by rw [hc]; simp), w1]
      refine ih (i + 1) _ (by omega) ?_ ?_ ?_ ?_
      · intro k hk hki
        by_cases e : k = i
        · subst e; exact hc
        · exact hp k hk (by omega)
      all_goals simp [wv_ne hne, wv_ne hne']
    · rw [if_pos (by
        by_cases e1 : a[i].1 = b[i].1
        · exact .inr fun e2 => hc (Prod.ext e1 e2)
        · exact .inl e1)]
      exact hret (fun e => hc (by subst e; rfl)) _ (by simp)
theorem ok19g {a b : List (Int × Int)} (hl : a.length ≤ 100000) (hl2 : b.length ≤ 100000) : Ok Try.prog 19 [wv a, wv b] H (.ret (bl (decide (a = b)))) H := by
  obtain ⟨v1, v2, v3, v4, v5, v6⟩ := wv_facts a
  obtain ⟨u1, u2, u3, u4, u5, u6⟩ := wv_facts b
  refine ok_fn hm' Try.func19 c19 (by simp) fun hcl => ?_
  by_cases hab : a.length = b.length
  · simp -implicitDefEqProofs [i19, r19, v1, v2, v3, v4, u1, u2, u3, u4, hab]
    refine loop19g hl hab (fun hne env h4 => ?_) (fun he env => ?_) a.length 0 _ (by omega) (by omega) (by simp) (by simp) (by simp)
    · simp -implicitDefEqProofs [h4, hne]
      exact cv_id
    · simp -implicitDefEqProofs [he]
      exact cv_id
  · simp -implicitDefEqProofs [i19, r19, v1, v2, v3, v4, u1, u2, u3, u4, show ¬ ((a.length : Int) = b.length) by omega]
    have : a ≠ b := fun e => hab (by rw [e])
    simp [this]
    exact cv_id
theorem way_ok (hF : g.formE = 0) {node : Nat} {pl : Int} (hn : node < g.ns.length) (h0 : 0 ≤ pl) (h1 : pl < g.pl) : Ok Try.prog 18 [.agg g.cells, i64 node, i64 pl] H (.ret (.tup [wv (g.way node pl), i64 0])) H := by
  have := ok18 (H := H) (g := g) node pl
  have e : g.wayE node pl = 0 := by unfold Gm.wayE; rw [if_neg (by omega), if_neg (by omega)]
  unfold Gm.wayV at this
  rw [if_pos e] at this
  simpa using this
theorem perf_ok (hF : g.formE = 0) {pl : Int} (h0 : 0 ≤ pl) (h1 : pl < g.pl) : Ok Try.prog 16 [.agg g.cells, i64 pl] H (.ret (.tup [bl (g.perf pl), i64 0])) H := by
  have := ok16 (H := H) (g := g) pl
  have e : g.perfE pl = 0 := by unfold Gm.perfE; rw [if_neg (by omega), if_neg (by omega)]
  unfold Gm.perfV at this
  rw [if_pos e, e] at this
  exact this
theorem fv_facts (l : List Fl) : (fv l).vd = true ∧ (fv l).ug = fv l ∧ (fv l).isSl = true ∧ (fv l).slen = l.length := by
  unfold fv
  split
  · rename_i h; subst h; exact ⟨rfl, rfl, rfl, rfl⟩
  · exact ⟨rfl, rfl, rfl, rfl⟩
theorem fv_ne {l : List Fl} (h : l ≠ []) : fv l = .slc (fls l) l.length := if_neg h
def noneF (g : Gm) (pl : Int) (l : List Fl) : Bool := l.all fun f => decide (plAt g f.i ≠ pl)
set_option maxRecDepth 10000 in
theorem loop6_1 {l : List Fl} (hl : l.length ≤ 1000000) (hin : ∀ f ∈ l, 0 ≤ f.i ∧ f.i < g.is.length) {pl np : Int} {e7 e11 e14 e15 e17 : SV} {N : Nat} {K : XE → Env → List AO → Prop} {Q : Bool}
    (hexit : ∀ env, env.get 1 = i64 np → env.get 7 = e7 → env.get 8 = .ptr (.own H.length 0 0 0 0) 0 → env.get 9 = fv l → env.get 11 = e11 → env.get 13 = i64 pl → env.get 14 = e14 → env.get 15 = e15 → env.get 16 = bl Q → env.get 17 = e17 → K (.exit 2) env (H ++ [gbox g])) :
    ∀ (n k : Nat) (env : Env) (b : Bool), k + n = l.length → (b && noneF g pl (l.drop k)) = Q → env.get 1 = i64 np → env.get 7 = e7 → env.get 8 = .ptr (.own H.length 0 0 0 0) 0 → env.get 9 = fv l → env.get 11 = e11 → env.get 13 = i64 pl → env.get 14 = e14 → env.get 15 = e15 → env.get 16 = bl b → env.get 17 = e17 → env.get 18 = i64 k →
      LI Try.prog N drawB l6_1 env (H ++ [gbox g]) K := by
  obtain ⟨v1, v2, v3, v4⟩ := fv_facts l
  intro n
  induction n with
  | zero =>
    intro k env b hk hQ h1 h7 h8 h9 h11 h13 h14 h15 h16 h17 h18
    refine li_go hm' l6_1.eq_1 ?_
    have e : k = l.length := by omega
    subst e
    simp -implicitDefEqProofs [h1, h7, h8, h9, h11, h13, h14, h15, h16, h17, h18, v1, v2, v3, v4]
    rw [List.drop_length] at hQ
    simp [noneF] at hQ
    refine hexit _ ?_ ?_ ?_ ?_ ?_ ?_ ?_ ?_ ?_ ?_ <;> simp [h1, h7, h8, h9, h11, h13, h14, h15, h16, h17, hQ]
  | succ n ih =>
    intro k env b hk hQ h1 h7 h8 h9 h11 h13 h14 h15 h16 h17 h18
    refine li_go hm' l6_1.eq_1 ?_
    have hlt : k < l.length := by omega
    have hne : l ≠ [] := fun e => by subst e; simp at hlt
    have w1 : IntKind.i64.wrap ((k : Int) + 1) = ((k + 1 : Nat) : Int) := wrap_succ (by omega)
    have hi := hin _ (List.getElem_mem hlt)
    have hit : l[k].i.toNat < g.is.length := by omega
    have hpa : plAt g l[k].i = g.is[l[k].i.toNat].1 := by unfold plAt; rw [List.getElem?_eq_getElem hit]
    rw [List.drop_eq_getElem_cons hlt] at hQ
    simp only [noneF, List.all_cons] at hQ
    rw [fv_ne hne] at h9
    simp -implicitDefEqProofs [h1, h7, h8, h9, h11, h13, h14, h15, h16, h17, h18, hlt, gbox, fls_g2 hlt, fls_len, hi.1, hi.2, show ¬ l[k].i < 0 by omega, show ¬ ((g.is.length : Int) ≤ l[k].i) by omega, infs_g0 hit, infs_len]
    refine ⟨by omega, fun hb => ⟨hb, by omega⟩, fun hb => ⟨hb, by omega⟩, ?_⟩
    rw [w1]
    refine ih (k + 1) _ (b && !decide (g.is[l[k].i.toNat].1 = pl)) (by omega) ?_ ?_ ?_ ?_ ?_ ?_ ?_ ?_ ?_ ?_ ?_ ?_
    · rw [← hQ, hpa, Bool.and_assoc]; simp [noneF]
    all_goals simp [h1, h7, h8, h11, h13, h14, h15, h17, fv_ne hne]
def sameK (g : Gm) (pl : Int) (A l : List Int) : Bool := l.all fun v => decide (g.way (A.headD 0).toNat pl = g.way v.toNat pl)
def sameI (g : Gm) (pl : Int) (i : Nat) : Bool := match g.is[i]?, g.sets[i]? with
  | some x, some A => if x.1 = pl then sameK g pl A (A.drop 1) else true
  | _, _ => true
def sameS (g : Gm) (pl : Int) : Nat → Nat → Bool
  | 0, _ => true
  | n + 1, i => sameI g pl i && sameS g pl n (i + 1)
theorem sameS_iff (hW : Wg g) {pl : Int} : sameS g pl g.is.length 0 = true ↔ g.perf pl = true := by
  have hsl : g.sets.length = g.is.length := sets_len
  have h1 : ∀ n i, sameS g pl n i = true ↔ ∀ t, i ≤ t → t < i + n → sameI g pl t = true := by
    intro n
    induction n with
    | zero => intro i; simp [sameS]; intro t h1 h2; omega
    | succ n ih =>
      intro i
      simp only [sameS, Bool.and_eq_true, ih]
      constructor
      · rintro ⟨h1, h2⟩ t h3 h4
        by_cases e : t = i
        · subst e; exact h1
        · exact h2 t (by omega) (by omega)
      · intro h
        exact ⟨h i (Nat.le_refl _) (by omega), fun t h1 h2 => h t (by omega) (by omega)⟩
  rw [h1, perf_iff hW]
  constructor
  · rintro h t ht hp ⟨k1, k2, v, hv, hne⟩
    have := h t (Nat.zero_le _) (by omega)
    unfold sameI at this
    rw [List.getElem?_eq_getElem ht, List.getElem?_eq_getElem k1] at this
    simp only [hp, if_true, sameK, List.all_eq_true, decide_eq_true_eq] at this
    rw [hp] at hne
    cases hA : g.sets[t] with
    | nil => rw [hA] at hv; simp at hv
    | cons y r =>
      rw [hA] at this hv hne
      rcases List.mem_cons.1 hv with rfl | hv
      · exact hne rfl
      · exact hne (this v (by simpa using hv)).symm
  · intro h t _ ht
    unfold sameI
    have ht' : t < g.is.length := by omega
    have ht2 : t < g.sets.length := by omega
    rw [List.getElem?_eq_getElem ht', List.getElem?_eq_getElem ht2]
    simp only
    split
    · rename_i hp
      simp only [sameK, List.all_eq_true, decide_eq_true_eq]
      intro v hv
      by_cases e : g.way (g.sets[t].headD 0).toNat pl = g.way v.toNat pl
      · exact e
      · exact absurd ⟨ht2, ht', v, List.mem_of_mem_drop hv, by rw [hp]; exact fun e' => e e'.symm⟩ (h t ht' hp)
    · rfl
set_option maxRecDepth 10000 in
theorem loop6_3 (hF : g.formE = 0) (hW : Wg g) {pl np : Int} (p0 : 0 ≤ pl) (p1 : pl < g.pl) {i : Nat} (hi : i < g.is.length) (hi2 : i < g.sets.length) {e7 e9 e14 e15 e16 : SV} {N : Nat} {K : XE → Env → List AO → Prop} {Q : Bool}
    (hexit : ∀ env, env.get 1 = i64 np → env.get 7 = e7 → env.get 8 = .ptr (.own H.length 0 0 0 0) 0 → env.get 9 = e9 → env.get 11 = g.setsV → env.get 13 = i64 pl → env.get 14 = e14 → env.get 15 = e15 → env.get 16 = e16 → env.get 17 = bl Q → env.get 19 = i64 i → K (.exit 6) env (H ++ [gbox g])) :
    ∀ (n k : Nat) (env : Env) (b : Bool), k + n = g.sets[i].length → 1 ≤ k → (b && (if g.is[i].1 = pl then sameK g pl g.sets[i] (g.sets[i].drop k) else true)) = Q → env.get 1 = i64 np → env.get 7 = e7 → env.get 8 = .ptr (.own H.length 0 0 0 0) 0 → env.get 9 = e9 → env.get 11 = g.setsV → env.get 13 = i64 pl → env.get 14 = e14 → env.get 15 = e15 → env.get 16 = e16 → env.get 17 = bl b → env.get 19 = i64 i → env.get 20 = i64 k →
      LI Try.prog N drawB l6_3 env (H ++ [gbox g]) K := by
  have hne := hW.ne i hi2
  have hgn := hW.gd.n
  have hsl : g.sets.length = g.is.length := sets_len
  have hml := sets_lenk hi2
  intro n
  induction n with
  | zero =>
    intro k env b hk hk1 hQ h1 h7 h8 h9 h11 h13 h14 h15 h16 h17 h19 h20
    refine li_go hm' l6_3.eq_1 ?_
    have e : k = g.sets[i].length := by omega
    subst e
    simp -implicitDefEqProofs [h1, h7, h8, h9, h11, h13, h14, h15, h16, h17, h19, h20, Gm.setsV, hi, hi2, slN_at hi2, slN_ne hne, gbox]
    rw [List.drop_length] at hQ
    simp [sameK] at hQ
    refine hexit _ ?_ ?_ ?_ ?_ ?_ ?_ ?_ ?_ ?_ ?_ ?_ <;> simp [h1, h7, h8, h9, h11, h13, h14, h15, h16, h17, h19, hQ, Gm.setsV]
  | succ n ih =>
    intro k env b hk hk1 hQ h1 h7 h8 h9 h11 h13 h14 h15 h16 h17 h19 h20
    refine li_go hm' l6_3.eq_1 ?_
    have hlt : k < g.sets[i].length := by omega
    have w1 : IntKind.i64.wrap ((k : Int) + 1) = ((k + 1 : Nat) : Int) := wrap_succ (by omega)
    by_cases hp : g.is[i].1 = pl
    · have hk' : k < g.sets[i].length := hlt
      obtain ⟨m0, hm0, hm0'⟩ : ∃ m0 : Nat, g.sets[i].getD 0 0 = m0 ∧ m0 < g.ns.length := by
        have hl0 : 0 < g.sets[i].length := by omega
        have := sets_mem hi2 (List.getElem_mem hl0)
        refine ⟨(g.sets[i][0]).toNat, ?_, by omega⟩
        rw [List.getD_eq_getElem?_getD, List.getElem?_eq_getElem hl0, Option.getD_some]; omega
      have hm0'' : g.sets[i].headD 0 = m0 := by rw [← hm0]; cases g.sets[i] <;> rfl
      obtain ⟨mk, hmk, hmk'⟩ : ∃ mk : Nat, g.sets[i][k] = mk ∧ mk < g.ns.length := by
        have := sets_mem hi2 (List.getElem_mem hlt)
        exact ⟨(g.sets[i][k]).toNat, by omega, by omega⟩
      have q0 := ints_h hne
      rw [hm0] at q0
      have wl : ∀ v, (g.way v pl).length ≤ 100000 := fun v => by have := way_len (g := g) (node := v) (pl := pl); omega
      rw [if_pos hp, List.drop_eq_getElem_cons hlt] at hQ
      simp only [sameK, List.all_cons, hm0'', hmk] at hQ
      simp -implicitDefEqProofs [h1, h7, h8, h9, h11, h13, h14, h15, h16, h17, h19, h20, Gm.setsV, hi, hi2, slN_at hi2, slN_ne hne, gbox, hlt, infs_g0 hi, infs_len, hp, q0]
      refine ⟨by omega, by omega, by omega, ?_⟩
      refine callq_go (fun _ => way_ok hF hm0' p0 p1) ?_
      simp -implicitDefEqProofs [h1, h7, h8, h9, h11, h13, h14, h15, h16, h17, h19, h20, Gm.setsV, hi, hi2, slN_at hi2, slN_ne hne, gbox, hlt, infs_g0 hi, infs_len, hp, q0, hmk]
      refine ⟨by omega, ?_⟩
      refine callq_go (fun _ => way_ok hF hmk' p0 p1) ?_
      simp -implicitDefEqProofs [h1, h7, h8, h9, h11, h13, h14, h15, h16, h17, h19, h20]
      cases b with
      | true =>
        refine callq_st (r := bl (decide (g.way m0 pl = g.way mk pl))) (fun _ => by simp only [List.map_cons, List.map_nil, SV.strip, (Pl.wv _).st]; exact ok19g (wl _) (wl _)) ?_
        simp -implicitDefEqProofs [h1, h7, h8, h9, h11, h13, h14, h15, h16, h17, h19, h20, w1]
        refine ih (k + 1) _ (decide (g.way m0 pl = g.way mk pl)) (by omega) (by omega) ?_ ?_ ?_ ?_ ?_ ?_ ?_ ?_ ?_ ?_ ?_ ?_ ?_
        · rw [if_pos hp, ← hQ]; simp only [sameK, hm0'', Bool.true_and, Int.toNat_natCast]
        all_goals simp [h1, h7, h8, h9, h11, h13, h14, h15, h16, h19, Gm.setsV]
      | false =>
        refine callq_off _ _ _ _ ?_
        simp -implicitDefEqProofs [h1, h7, h8, h9, h11, h13, h14, h15, h16, h17, h19, h20, w1]
        refine ih (k + 1) _ false (by omega) (by omega) ?_ ?_ ?_ ?_ ?_ ?_ ?_ ?_ ?_ ?_ ?_ ?_ ?_
        · rw [← hQ]; simp
        all_goals simp [h1, h7, h8, h9, h11, h13, h14, h15, h16, h19, Gm.setsV]
    · simp -implicitDefEqProofs [h1, h7, h8, h9, h11, h13, h14, h15, h16, h17, h19, h20, Gm.setsV, hi, hi2, slN_at hi2, slN_ne hne, gbox, hlt, infs_g0 hi, infs_len, hp]
      rw [if_neg hp] at hQ
      simp at hQ
      refine ⟨by omega, hexit _ ?_ ?_ ?_ ?_ ?_ ?_ ?_ ?_ ?_ ?_ ?_⟩ <;> simp [h1, h7, h8, h9, h11, h13, h14, h15, h16, h17, h19, hQ, Gm.setsV]
set_option maxRecDepth 10000 in
theorem loop6_2 (hF : g.formE = 0) (hW : Wg g) {pl np : Int} (p0 : 0 ≤ pl) (p1 : pl < g.pl) {e7 e9 e14 e15 e16 : SV} {N : Nat} {K : XE → Env → List AO → Prop} {Q : Bool}
    (hexit : ∀ env, env.get 1 = i64 np → env.get 7 = e7 → env.get 8 = .ptr (.own H.length 0 0 0 0) 0 → env.get 9 = e9 → env.get 11 = g.setsV → env.get 13 = i64 pl → env.get 14 = e14 → env.get 15 = e15 → env.get 16 = e16 → env.get 17 = bl Q → K (.exit 4) env (H ++ [gbox g])) :
    ∀ (n i : Nat) (env : Env) (b : Bool), i + n = g.is.length → (b && sameS g pl n i) = Q → env.get 1 = i64 np → env.get 7 = e7 → env.get 8 = .ptr (.own H.length 0 0 0 0) 0 → env.get 9 = e9 → env.get 11 = g.setsV → env.get 13 = i64 pl → env.get 14 = e14 → env.get 15 = e15 → env.get 16 = e16 → env.get 17 = bl b → env.get 19 = i64 i →
      LI Try.prog N drawB l6_2 env (H ++ [gbox g]) K := by
  have hsl : g.sets.length = g.is.length := sets_len
  have hgi := hW.gd.i
  intro n
  induction n with
  | zero =>
    intro i env b hi hQ h1 h7 h8 h9 h11 h13 h14 h15 h16 h17 h19
    refine li_go hm' l6_2.eq_1 ?_
    have e : i = g.is.length := by omega
    subst e
    simp -implicitDefEqProofs [h1, h7, h8, h9, h11, h13, h14, h15, h16, h17, h19, Gm.setsV]
    simp [sameS] at hQ
    refine hexit _ ?_ ?_ ?_ ?_ ?_ ?_ ?_ ?_ ?_ ?_ <;> simp [h1, h7, h8, h9, h11, h13, h14, h15, h16, h17, hQ, Gm.setsV]
  | succ n ih =>
    intro i env b hi hQ h1 h7 h8 h9 h11 h13 h14 h15 h16 h17 h19
    refine li_go hm' l6_2.eq_1 ?_
    have hlt : i < g.is.length := by omega
    have hlt2 : i < g.sets.length := by omega
    have hne := hW.ne i hlt2
    have w1 : IntKind.i64.wrap ((i : Int) + 1) = ((i + 1 : Nat) : Int) := wrap_succ (by omega)
    simp -implicitDefEqProofs [h1, h7, h8, h9, h11, h13, h14, h15, h16, h17, h19, Gm.setsV, hlt]
    have hpos : 1 ≤ g.sets[i].length := by cases h : g.sets[i] with
      | nil => exact absurd h hne
      | cons y r => simp
    refine loop6_3 hF hW p0 p1 hlt hlt2 (e7 := e7) (e9 := e9) (e14 := e14) (e15 := e15) (e16 := e16) (np := np) (Q := b && sameI g pl i) (fun env k1 k7 k8 k9 k11 k13 k14 k15 k16 k17 k19 => ?_) (g.sets[i].length - 1) 1 _ b (by omega) (by omega) ?_ ?_ ?_ ?_ ?_ ?_ ?_ ?_ ?_ ?_ ?_ ?_ ?_
    · simp -implicitDefEqProofs [k1, k7, k8, k9, k11, k13, k14, k15, k16, k17, k19, w1]
      refine ih (i + 1) _ (b && sameI g pl i) (by omega) ?_ ?_ ?_ ?_ ?_ ?_ ?_ ?_ ?_ ?_ ?_ ?_
      · rw [← hQ]; simp [sameS, Bool.and_assoc]
      all_goals simp [k1, k7, k8, k9, k11, k13, k14, k15, k16, k17]
    · unfold sameI; rw [List.getElem?_eq_getElem hlt, List.getElem?_eq_getElem hlt2]
    all_goals simp [h1, h7, h8, h9, h11, h13, h14, h15, h16, h17, h19, Gm.setsV]
set_option maxRecDepth 10000 in
theorem loop6_0 (hF : g.formE = 0) (hW : Wg g) {e7 : SV} {N : Nat} {K : XE → Env → List AO → Prop}
    (hexit : ∀ env, env.get 7 = e7 → K (.exit 0) env (H ++ [gbox g])) :
    ∀ (n p : Nat) (env : Env), (p : Int) + n = g.pl → env.get 1 = i64 g.pl → env.get 7 = e7 → env.get 8 = .ptr (.own H.length 0 0 0 0) 0 → env.get 9 = fv g.flaws → env.get 11 = g.setsV → env.get 13 = i64 p →
      LI Try.prog N drawB l6_0 env (H ++ [gbox g]) K := by
  intro n
  induction n with
  | zero =>
    intro p env hp h1 h7 h8 h9 h11 h13
    refine li_go hm' l6_0.eq_1 ?_
    simp -implicitDefEqProofs [h1, h7, h8, h9, h11, h13, show ¬ ((p : Int) < g.pl) by omega]
    exact hexit _ (by simp [h7])
  | succ n ih =>
    intro p env hp h1 h7 h8 h9 h11 h13
    refine li_go hm' l6_0.eq_1 ?_
    have hlt : (p : Int) < g.pl := by omega
    have hp4 := hW.gd.p4
    have w1 : IntKind.i64.wrap ((p : Int) + 1) = ((p + 1 : Nat) : Int) := wrap_succ (by omega)
    simp -implicitDefEqProofs [h1, h7, h8, h9, h11, h13, hlt, gbox]
    refine call_go (perf_ok hF (by omega) hlt) ?_
    simp -implicitDefEqProofs [h1, h7, h8, h9, h11, h13, hlt]
    refine loop6_1 (l := g.flaws) (g := g) (H := H) (pl := p) (np := g.pl) (e7 := e7) (e11 := g.setsV) (e14 := bl (g.perf p)) (e15 := i64 0) (e17 := bl true) (Q := noneF g p g.flaws) (by have := flaws_len hW; omega) (fun f hf => flaws_info hf) (fun env k1 k7 k8 k9 k11 k13 k14 k15 k16 k17 => ?_) g.flaws.length 0 _ true (by omega) (by simp) ?_ ?_ ?_ ?_ ?_ ?_ ?_ ?_ ?_ ?_ ?_
    · simp -implicitDefEqProofs [k1, k7, k8, k9, k11, k13, k14, k15, k16, k17]
      refine loop6_2 hF hW (by omega) hlt (e7 := e7) (e9 := fv g.flaws) (e14 := bl (g.perf p)) (e15 := i64 0) (e16 := bl (noneF g p g.flaws)) (np := g.pl) (Q := sameS g p g.is.length 0) (fun env k1 k7 k8 k9 k11 k13 k14 k15 k16 k17 => ?_) g.is.length 0 _ true (by omega) (by simp) ?_ ?_ ?_ ?_ ?_ ?_ ?_ ?_ ?_ ?_ ?_
      · have e1 : noneF g p g.flaws = g.perf p := by
          rw [perf_eq hW]; unfold noneF Gm.perfR
          rw [Bool.eq_iff_iff]; simp [List.all_eq_true]
        have e2 : sameS g p g.is.length 0 = g.perf p := by rw [Bool.eq_iff_iff]; exact sameS_iff hW
        simp -implicitDefEqProofs [k1, k7, k8, k9, k11, k13, k14, k15, k16, k17, e1, e2, w1]
        refine ih (p + 1) _ (by omega) ?_ ?_ ?_ ?_ ?_ ?_ <;> simp [k1, k7, k8, k9, k11, k13]
      all_goals simp [k1, k7, k8, k9, k11, k13, k14, k15, k16, k17]
    all_goals simp [h1, h7, h8, h9, h11, h13]
/-- RecallPerfect, as far as its code goes. -/
theorem ok6 {l more : List Int} (pl : Int) : Ok Try.prog 6 [.slc (ints l) l.length, i64 pl, .slc (ints more) more.length] H (.ret (bl true)) H := by
  refine ok_fn hm' Try.func6 c6 (by simp) fun hcl => ?_
  by_cases hlong : 200 < (l.length : Int) ∨ 60 < (more.length : Int)
  · simp -implicitDefEqProofs [i6, r6]
    refine call_go ok4' ?_
    simp -implicitDefEqProofs [hlong]
    exact cv_id
  · simp -implicitDefEqProofs [i6, r6]
    refine call_go ok4' ?_
    simp -implicitDefEqProofs [hlong]
    have hr := Int.emod_nonneg pl (show (3 : Int) ≠ 0 by omega)
    have hr2 := Int.emod_lt_of_pos pl (show 0 < (3 : Int) by omega)
    refine call_go (ok34 pl 3 (by omega) (by omega)) ?_
    have w1 : IntKind.i64.wrap (1 + pl % 3) = 1 + pl % 3 := wrap_id (by omega) (by omega)
    simp -implicitDefEqProofs [w1]
    refine call_goP (ok35 (by omega) (by omega) (by omega) (by omega)) ?_
    rintro o G' ⟨g, hm, rfl, rfl⟩
    have hF := hm.form (by omega) (by omega) (by omega)
    have hW := wg_of hF
    have hpl := hm.pl
    have hsl : g.sets.length = g.is.length := sets_len
    have o17 := ok17 (H := G' ++ [gbox g]) (g := g)
    have o21 := ok21 (H := G' ++ [gbox g]) (g := g)
    simp only [Gm.flawsV, Gm.out, hF, if_true] at o17 o21
    simp -implicitDefEqProofs [Gm.cells, w1]
    refine call_go o17 ?_
    simp -implicitDefEqProofs [gbox, Gm.cells, w1]
    refine call_go o21 ?_
    simp -implicitDefEqProofs [gbox, Gm.cells, w1, Gm.setsV]
    refine loop6_0 (g := g) (H := G') hF hW (e7 := bl true) (fun env k7 => ?_) g.pl.toNat 0 _ (by omega) ?_ ?_ ?_ ?_ ?_ ?_
    · simp -implicitDefEqProofs [k7]
      exact cv_fz 2 hcl rfl (by simp)
    all_goals simp [hpl, Gm.setsV]
end
end Go.Proofs.Ytiikfkacbglblaa

