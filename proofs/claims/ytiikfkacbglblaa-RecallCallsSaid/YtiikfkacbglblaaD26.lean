/-
  Steps of the proof: contracts of functions and plain facts that the statement rests on.
-/
import Derived.Test.YtiikfkacbglblaaD25
set_option linter.all false
namespace Go.Proofs.Ytiikfkacbglblaa
open Go.Ab
/-- A flaw: kind, node, set, other node. -/
structure Fl where
  k : Int
  n : Int
  i : Int
  o : Int
deriving DecidableEq
def Fl.cells (f : Fl) : List SV := [i64 f.k, i64 f.n, i64 f.i, i64 f.o]
def Keep (G G' : List AO) : Prop := ∀ (j : Nat) (o : AO), G[j]? = some o → o.ty = 3 ∨ o.ty = 80 → G'[j]? = some o
theorem Keep.refl (G : List AO) : Keep G G := fun _ _ h _ => h
theorem Keep.trans {G G' G'' : List AO} (h : Keep G G') (h' : Keep G' G'') : Keep G G'' := fun j o ho ht => h' j o (h j o ho ht) ht
theorem Keep.app (G : List AO) (L : List AO) : Keep G (G ++ L) := fun j o ho _ => by rw [List.getElem?_append_left (getElem?_lt ho)]; exact ho
/-- What is called for each flaw. -/
structure Rep {τ : Type} (rp : SV) (b0 : Nat) (R : Nat → List AO → τ → Prop) (rb : τ → Fl → Bool) (rn : τ → Fl → τ) : Prop where
  vd : rp.vd = true
  ug : rp.ug = rp
  cell : rp.isCell = true
  flat : rp.flat = [rp]
  call : ∀ c G s f, R (c + 1) G s → OkCP Try.prog rp [.agg f.cells] G fun out G' => out = .ret (bl (rb s f)) ∧ R c G' (rn s f) ∧ Keep G G'
  app : ∀ c G s o, R c G s → R c (G ++ [o]) s
  put : ∀ c G s j o o', R c G s → G[j]? = some o → b0 ≤ j → o.ty = 3 → R c (G.set j o') s
  len : ∀ c G s, R c G s → b0 ≤ G.length
  dec : ∀ c G s, R (c + 1) G s → R c G s
theorem Rep.decn {τ : Type} {rp : SV} {b0 : Nat} {R : Nat → List AO → τ → Prop} {rb : τ → Fl → Bool} {rn : τ → Fl → τ} (h : Rep rp b0 R rb rn) : ∀ {k c : Nat} {G : List AO} {s : τ}, R (k + c) G s → R c G s
  | 0, c, G, s, hr => by simpa using hr
  | k + 1, c, G, s, hr => h.decn (k := k) (h.dec _ _ _ (by rw [show k + c + 1 = k + 1 + c by omega]; exact hr))
section
variable {τ : Type} {rp : SV} {b0 : Nat} {R : Nat → List AO → τ → Prop} {rb : τ → Fl → Bool} {rn : τ → Fl → τ} {g : Gm}
/-- What seek's own boxes hold. -/
structure SkI (g : Gm) (rp : SV) (info : Int) (bs bi : Nat) (G : List AO) : Prop where
  s : G[bs]? = some ⟨[g.wp, rp], 80, 0, true⟩
  i : G[bi]? = some ⟨[i64 info], 3, 0, true⟩
theorem SkI.keep {info : Int} {bs bi : Nat} {G G' : List AO} (h : SkI g rp info bs bi G) (hk : Keep G G') : SkI g rp info bs bi G' := ⟨hk _ _ h.s (.inr rfl), hk _ _ h.i (.inl rfl)⟩
theorem SkI.cs {info : Int} {bs bi : Nat} {G : List AO} (h : SkI g rp info bs bi G) : objCells G bs 0 = [g.wp, rp] := objCells_of h.s rfl
theorem SkI.ci {info : Int} {bs bi : Nat} {G : List AO} (h : SkI g rp info bs bi G) : objCells G bi 0 = [i64 info] := objCells_of h.i rfl
def dpn (g : Gm) (info : Int) (d : Int) (k : Nat) : Int := if infoAt g k = info then k else d
def DpI (g : Gm) (R : Nat → List AO → τ → Prop) (rp : SV) (info : Int) (bs bi bd c : Nat) (s : τ) (_ : Nat) (G : List AO) (d : Int) : Prop :=
  R c G s ∧ SkI g rp info bs bi G ∧ G[bd]? = some ⟨[i64 d], 3, 0, true⟩ ∧ bd ≠ bs ∧ bd ≠ bi
set_option maxRecDepth 10000 in
theorem ok68 (hR : Rep rp b0 R rb rn) (hn : g.ns.length ≤ 2000) {info : Int} {bs bi bd c : Nat} (hbd : b0 ≤ bd) {s : τ} {m : Nat} {G : List AO} {d : Int} (hI : DpI g R rp info bs bi bd c s m G d) {k : Nat} (hk : k < g.ns.length) (a : Int) (m' : Nat) :
    OkP Try.prog 68 [i64 k, i64 a, .ptr (.own bs 0 0 0 0) 0, .ptr (.own bi 0 0 0 0) 0, .ptr (.own bd 0 0 0 0) 0] G fun out G' => out = .ret (bl (decide (dpn g info d k < 0))) ∧ DpI g R rp info bs bi bd c s m' G' (dpn g info d k) := by
  obtain ⟨h1, h2, h3, h4, h5⟩ := hI
  have hinf : infoAt g k = g.ns[k].i := by unfold infoAt; rw [List.getElem?_eq_getElem hk]
  have hd : objCells G bd 0 = [i64 d] := objCells_of h3 rfl
  refine okP_fn hm Try.func68 c68 (by simp) fun hcl => ?_
  by_cases hi : g.ns[k].i = info
  · have e : dpn g info d k = k := by unfold dpn; rw [if_pos (by rw [hinf]; exact hi)]
    rw [e]
    have hst : ∀ f : AO → AO, Ab.setObj G bd f = G.set bd (f ⟨[i64 d], 3, 0, true⟩) := fun f => setObj_some h3 f
    have hlt := getElem?_lt h3
    have hc2 : objCells (G.set bd (⟨[i64 k], 3, 0, true⟩ : AO)) bd 0 = [i64 k] := objCells_of (o := ⟨[i64 k], 3, 0, true⟩) (List.getElem?_set_self hlt) rfl
    simp -implicitDefEqProofs [i68, r68, Gm.wp, sl, hk, h2.cs, h2.ci, hd, nds_g2 hk, nds_len, hi, hst, hc2]
    refine ⟨by omega, _, _, ⟨rfl, hR.put _ _ _ _ _ _ h1 h3 hbd rfl, ⟨?_, ?_⟩, List.getElem?_set_self hlt, h4, h5⟩, cv_id⟩
    · rw [List.getElem?_set_ne h4]; exact h2.s
    · rw [List.getElem?_set_ne h5]; exact h2.i
  · have e : dpn g info d k = d := by unfold dpn; rw [if_neg (by rw [hinf]; exact hi)]
    rw [e]
    simp -implicitDefEqProofs [i68, r68, Gm.wp, sl, hk, h2.cs, h2.ci, hd, nds_g2 hk, nds_len, hi]
    exact ⟨by omega, _, _, ⟨rfl, h1, h2, h3, h4, h5⟩, cv_id⟩
theorem abv_len {pl : Int} : ∀ (f node : Nat) (l : List (Int × Int)), (abv g pl (fun _ _ _ => true) (fun l k a => l ++ [(infoAt g k, a)]) f node l).length ≤ l.length + f
  | 0, node, l => by simp [abv]
  | f + 1, node, l => by
    unfold abv
    split
    · omega
    · split
      · omega
      · split
        · rw [if_pos rfl]
          refine Nat.le_trans (abv_len (pl := pl) f _ _) ?_
          simp only [List.length_append, List.length_singleton]
          omega
        · have := abv_len (pl := pl) f (gi g.wk.2.P node).toNat l
          omega
theorem way_len {node : Nat} {pl : Int} : (g.way node pl).length ≤ g.ns.length := by
  unfold Gm.way Gm.up
  have := abv_len (g := g) (pl := pl) g.ns.length node []
  simpa using this
def Gm.deep (g : Gm) (node : Nat) (pl info : Int) : Int := abv g pl (fun d k _ => decide (dpn g info d k < 0)) (fun d k _ => dpn g info d k) g.ns.length node (-1)
/-- The flaws of a set. -/
def seekS (g : Gm) (rb : τ → Fl → Bool) (rn : τ → Fl → τ) (info pl n0 : Int) (first : List (Int × Int)) : List Int → τ → Bool × τ
  | [], s => (true, s)
  | v :: r, s =>
    let d := g.deep v.toNat pl info
    if 0 ≤ d ∧ rb s ⟨1, v, info, d⟩ = false then (false, rn s ⟨1, v, info, d⟩) else
    let s1 := if 0 ≤ d then rn s ⟨1, v, info, d⟩ else s
    if g.way v.toNat pl = first then seekS g rb rn info pl n0 first r s1 else
    if rb s1 ⟨2, v, info, n0⟩ = true then seekS g rb rn info pl n0 first r (rn s1 ⟨2, v, info, n0⟩) else (false, rn s1 ⟨2, v, info, n0⟩)
set_option maxRecDepth 10000 in
theorem loop48 (hW : Wg g) (hR : Rep rp b0 R rb rn) {info pl n0 : Int} {bs bi : Nat} {nodes : List Int} {first : List (Int × Int)} (hn0 : nodes.head? = some n0) (hns : ∀ v ∈ nodes, 0 ≤ v ∧ v < g.ns.length) (hnl : nodes.length ≤ 2000) (hfl : first.length ≤ 2000)
    {N : Nat} {K : XE → Env → List AO → Prop} {Q : Bool × τ}
    {c : Nat} (hret : Q.1 = false → ∀ env G, R c G Q.2 → env.get 6 = bl false → K .ret env G) (hexit : Q.1 = true → ∀ env G, R c G Q.2 → K (.exit 0) env G) :
    ∀ (n i : Nat) (env : Env) (G : List AO) (s : τ), i + n = nodes.length → R (2 * n + c) G s → SkI g rp info bs bi G → seekS g rb rn info pl n0 first (nodes.drop i) s = Q →
      env.get 2 = .slc (ints nodes) nodes.length → env.get 3 = .ptr (.own bs 0 0 0 0) 0 → env.get 4 = .ptr (.own bi 0 0 0 0) 0 → env.get 7 = i64 pl → env.get 8 = wv first → env.get 29 = .slc (ints nodes) nodes.length → env.get 30 = i64 nodes.length → env.get 31 = i64 i →
      LI Try.prog N drawB l48_0 env G K := by
  have hgn := hW.gd.n
  have hwp : g.wp.vd = true ∧ g.wp.ug = g.wp ∧ g.wp.flat = [g.wp] ∧ g.wp.isCell = true := ⟨rfl, rfl, rfl, rfl⟩
  intro n
  induction n with
  | zero =>
    intro i env G s hi hRG hS hQ h2 h3 h4 h7 h8 h29 h30 h31
    refine li_go hm l48_0.eq_1 ?_
    have e : i = nodes.length := by omega
    subst e
    rw [List.drop_length] at hQ
    subst hQ
    simp -implicitDefEqProofs [h30, h31]
    exact hexit rfl _ _ (by simpa [seekS] using hRG)
  | succ n ih =>
    intro i env G s hi hRG hS hQ h2 h3 h4 h7 h8 h29 h30 h31
    refine li_go hm l48_0.eq_1 ?_
    have hlt : i < nodes.length := by omega
    have w1 : IntKind.i64.wrap ((i : Int) + 1) = ((i + 1 : Nat) : Int) := wrap_succ (by omega)
    have hv := hns _ (List.getElem_mem hlt)
    have hvn : nodes[i] = ((nodes[i].toNat : Nat) : Int) := by omega
    rw [List.drop_eq_getElem_cons hlt] at hQ
    unfold seekS at hQ
    have hpos : 0 < nodes.length := by omega
    have hhead : (ints nodes).head? = some (i64 n0) := by
      cases hc : nodes with
      | nil => rw [hc] at hpos; simp at hpos
      | cons y r => rw [hc] at hn0; simp at hn0; subst hn0; rfl
    have hbs := getElem?_lt hS.s
    have hbi := getElem?_lt hS.i
    simp -implicitDefEqProofs [h2, h3, h4, h7, h8, h29, h30, h31, hlt, objCells_app _ hbs, objCells_app _ hbi, hS.cs, hS.ci, hwp.1, hwp.2.1]
    refine ⟨by omega, ?_⟩
    have h67 := ok67 (g := g) (σ := Int) (Inv := DpI g R rp info bs bi G.length (2 * n + c + 1 + 1) s) (vf := .fn (.func 68) [] [.ptr (.own bs 0 0 0 0) 0, .ptr (.own bi 0 0 0 0) 0, .ptr (.own G.length 0 0 0 0) 0]) (nb := fun d k _ => decide (dpn g info d k < 0)) (nx := fun d k _ => dpn g info d k) (pl := pl) hW ⟨rfl, rfl⟩
      (fun m G s k a hkm hm' hI => okCP_of (by simpa using ok68 hR hgn (hR.len _ _ _ hRG) hI (by omega) a k))
      (fun m G s o hI => ⟨hR.app _ _ _ _ hI.1, hI.2.1.keep (Keep.app _ _), by rw [List.getElem?_append_left (getElem?_lt hI.2.2.1)]; exact hI.2.2.1, hI.2.2.2⟩)
      (fun m k G s hkm hI => hI) (G := G ++ [⟨[i64 (-1)], 3, 0, true⟩]) (s := -1) (node := nodes[i].toNat) (by omega)
      ⟨hR.app _ _ _ _ (by rw [show 2 * n + c + 1 + 1 = 2 * (n + 1) + c by omega]; exact hRG), hS.keep (Keep.app _ _), by simp, by omega, by omega⟩
    rw [← hvn] at h67
    refine call_goP h67 (fun out G2 hP => ?_)
    obtain ⟨rfl, m', hR2, hS2, hd2, hb1, hb2⟩ := hP
    have hdeep : abv g pl (fun d k _ => decide (dpn g info d k < 0)) (fun d k _ => dpn g info d k) g.ns.length nodes[i].toNat (-1) = g.deep nodes[i].toNat pl info := rfl
    rw [hdeep] at hd2
    simp only at hQ
    generalize hgd : g.deep nodes[i].toNat pl info = d at hd2 hQ
    have hcd : objCells G2 G.length 0 = [i64 d] := objCells_of hd2 rfl
    by_cases h0 : 0 ≤ d
    · simp -implicitDefEqProofs [h2, h3, h4, h7, h8, h29, h30, h31, hcd, h0, hS2.cs, hS2.ci, hR.vd, hR.ug]
      refine call_gd (hR.call _ _ _ ⟨1, nodes[i], info, d⟩ hR2) (fun out G3 hP => ?_)
      obtain ⟨rfl, hR3, hK3⟩ := hP
      have hS3 := hS2.keep hK3
      cases hb : rb s ⟨1, nodes[i], info, d⟩ with
      | false =>
        rw [if_pos ⟨h0, hb⟩] at hQ
        subst hQ
        simp -implicitDefEqProofs
        exact hret rfl _ _ (hR.decn (k := 2 * n + 1) (by rw [show 2 * n + 1 + c = 2 * n + c + 1 by omega]; exact hR3)) (by simp)
      | true =>
        rw [if_neg (by rw [hb]; simp), if_pos h0] at hQ
        simp -implicitDefEqProofs [h2, h3, h4, h7, h8, h29, h30, h31, hS3.cs, hS3.ci, hR.vd, hR.ug, hwp.1, hwp.2.1]
        have h50 := ok50 (H := G3) hW (node := nodes[i].toNat) (by omega) pl
        rw [← hvn] at h50
        refine call_go h50 ?_
        simp -implicitDefEqProofs [h8]
        refine call_go (ok69 (a := g.way nodes[i].toNat pl) (b := first) (by have := way_len (g := g) (node := nodes[i].toNat) (pl := pl); omega)) ?_
        by_cases hw : g.way nodes[i].toNat pl = first
        · rw [if_pos hw] at hQ
          simp -implicitDefEqProofs [hw, h31]
          rw [w1]
          refine ih (i + 1) _ _ _ (by omega) (hR.dec _ _ _ (by rw [show 2 * n + c + 1 = (2 * n + c) + 1 by omega] at hR3; exact hR3)) hS3 hQ ?_ ?_ ?_ ?_ ?_ ?_ ?_ ?_
          · simp [h2]
          · simp [h3]
          · simp [h4]
          · simp [h7]
          · simp [h8]
          · simp [h29]
          · simp [h30]
          · simp
        · rw [if_neg hw] at hQ
          simp -implicitDefEqProofs [hw, h2, h3, h4, hS3.cs, hS3.ci, hR.vd, hR.ug, hhead]
          refine ⟨hpos, hpos, ?_⟩
          refine call_cP (hR.call _ _ _ ⟨2, nodes[i], info, n0⟩ hR3) (fun out G4 hP => ?_)
          obtain ⟨rfl, hR4, hK4⟩ := hP
          have hS4 := hS3.keep hK4
          cases hb2 : rb (rn s ⟨1, nodes[i], info, d⟩) ⟨2, nodes[i], info, n0⟩ with
          | true =>
            rw [hb2, if_pos rfl] at hQ
            simp -implicitDefEqProofs [h2, h3, h4, hS4.cs, hS4.ci, hR.vd, hR.ug, hhead, h31, hpos]
            rw [w1]
            refine ih (i + 1) _ _ _ (by omega) hR4 hS4 hQ ?_ ?_ ?_ ?_ ?_ ?_ ?_ ?_
            · simp [h2]
            · simp [h3]
            · simp [h4]
            · simp [h7]
            · simp [h8]
            · simp [h29]
            · simp [h30]
            · simp
          | false =>
            rw [hb2, if_neg (by simp)] at hQ
            subst hQ
            simp -implicitDefEqProofs [h2, h3, h4, hS4.cs, hS4.ci, hR.vd, hR.ug, hhead, hpos]
            exact hret rfl _ _ (hR.decn (k := 2 * n) hR4) (by simp)
    · rw [if_neg (fun h => h0 h.1), if_neg h0] at hQ
      simp -implicitDefEqProofs [h2, h3, h4, h7, h8, h29, h30, h31, hcd, h0, hS2.cs, hS2.ci, hR.vd, hR.ug, hwp.1, hwp.2.1]
      have h50 := ok50 (H := G2) hW (node := nodes[i].toNat) (by omega) pl
      rw [← hvn] at h50
      refine call_go h50 ?_
      simp -implicitDefEqProofs [h8]
      refine call_go (ok69 (a := g.way nodes[i].toNat pl) (b := first) (by have := way_len (g := g) (node := nodes[i].toNat) (pl := pl); omega)) ?_
      by_cases hw : g.way nodes[i].toNat pl = first
      · rw [if_pos hw] at hQ
        simp -implicitDefEqProofs [hw, h31]
        rw [w1]
        refine ih (i + 1) _ _ _ (by omega) (hR.dec _ _ _ (hR.dec _ _ _ hR2)) hS2 hQ ?_ ?_ ?_ ?_ ?_ ?_ ?_ ?_
        · simp [h2]
        · simp [h3]
        · simp [h4]
        · simp [h7]
        · simp [h8]
        · simp [h29]
        · simp [h30]
        · simp
      · rw [if_neg hw] at hQ
        simp -implicitDefEqProofs [hw, h2, h3, h4, hS2.cs, hS2.ci, hR.vd, hR.ug, hhead]
        refine ⟨hpos, hpos, ?_⟩
        refine call_cP (hR.call _ _ _ ⟨2, nodes[i], info, n0⟩ (hR.dec _ _ _ hR2)) (fun out G4 hP => ?_)
        obtain ⟨rfl, hR4, hK4⟩ := hP
        have hS4 := hS2.keep hK4
        cases hb2 : rb s ⟨2, nodes[i], info, n0⟩ with
        | true =>
          rw [hb2, if_pos rfl] at hQ
          simp -implicitDefEqProofs [h2, h3, h4, hS4.cs, hS4.ci, hR.vd, hR.ug, hhead, h31, hpos]
          rw [w1]
          refine ih (i + 1) _ _ _ (by omega) hR4 hS4 hQ ?_ ?_ ?_ ?_ ?_ ?_ ?_ ?_
          · simp [h2]
          · simp [h3]
          · simp [h4]
          · simp [h7]
          · simp [h8]
          · simp [h29]
          · simp [h30]
          · simp
        | false =>
          rw [hb2, if_neg (by simp)] at hQ
          subst hQ
          simp -implicitDefEqProofs [h2, h3, h4, hS4.cs, hS4.ci, hR.vd, hR.ug, hhead, hpos]
          exact hret rfl _ _ (hR.decn (k := 2 * n) hR4) (by simp)
set_option maxRecDepth 10000 in
theorem ok48 (hW : Wg g) (hR : Rep rp b0 R rb rn) {info : Nat} (hinfo : info < g.is.length) {nodes : List Int} {n0 : Int} (hn0 : nodes.head? = some n0) (hns : ∀ v ∈ nodes, 0 ≤ v ∧ v < g.ns.length) (hnl : nodes.length ≤ 2000) {G : List AO} {s : τ} {c : Nat} (hRG : R (2 * nodes.length + c) G s) :
    OkP Try.prog 48 [.agg [g.wp, rp], i64 info, .slc (ints nodes) nodes.length] G fun out G' => out = .ret (bl (seekS g rb rn info g.is[info].1 n0 (g.way n0.toNat g.is[info].1) nodes s).1) ∧ R c G' (seekS g rb rn info g.is[info].1 n0 (g.way n0.toNat g.is[info].1) nodes s).2 := by
  have hgn := hW.gd.n
  have hwp : g.wp.vd = true ∧ g.wp.ug = g.wp ∧ g.wp.flat = [g.wp] ∧ g.wp.isCell = true := ⟨rfl, rfl, rfl, rfl⟩
  have hpos : 0 < nodes.length := by cases nodes with | nil => simp at hn0 | cons y r => simp
  have hhead : (ints nodes).head? = some (i64 n0) := by
    cases hc : nodes with
    | nil => rw [hc] at hpos; simp at hpos
    | cons y r => rw [hc] at hn0; simp at hn0; subst hn0; rfl
  have hv := hns n0 (List.mem_of_head? hn0)
  have hvn : n0 = ((n0.toNat : Nat) : Int) := by omega
  refine okP_fn hm Try.func48 c48 (by simp) fun hcl => ?_
  simp -implicitDefEqProofs [i48, r48, Gm.wp, sl, hR.vd, hR.ug, hR.flat, hR.cell, hhead, hpos, hinfo, infs_g0 hinfo, infs_at hinfo, infs_len]
  refine ⟨by omega, ?_⟩
  have h50 := fun H => ok50 (H := H) hW (node := n0.toNat) (by omega) g.is[info].1
  rw [← hvn] at h50
  refine callq_go (fun _ => h50 _) ?_
  simp -implicitDefEqProofs
  refine loop48 (g := g) (R := R) (rb := rb) (rn := rn) hW hR (info := info) (pl := g.is[info].1) (n0 := n0) (bs := G.length) (bi := G.length + 1) (nodes := nodes) (first := g.way n0.toNat g.is[info].1) hn0 hns hnl (by have := way_len (g := g) (node := n0.toNat) (pl := g.is[info].1); omega)
    (c := c) (fun hQ env G' hR' h6 => ?_) (fun hQ env G' hR' => ?_) nodes.length 0 _ _ s (by omega) (by have := hR.app _ _ _ ⟨[g.wp, rp], 80, 0, true⟩ hRG; have := hR.app _ _ _ ⟨[i64 info], 3, 0, true⟩ this; rw [List.append_assoc] at this; exact this) ⟨by simp [Gm.wp, sl], by simp⟩ rfl
    (by simp) (by simp) (by simp) (by simp) (by simp) (by simp) (by simp) (by simp)
  · simp -implicitDefEqProofs [h6]
    exact ⟨_, _, ⟨by rw [show seekS g rb rn info g.is[info].1 n0 (g.way n0.toNat g.is[info].1) nodes s = seekS g rb rn info g.is[info].1 n0 (g.way n0.toNat g.is[info].1) (nodes.drop 0) s from rfl, hQ], hR'⟩, cv_id⟩
  · simp -implicitDefEqProofs
    exact ⟨_, _, ⟨by rw [show seekS g rb rn info g.is[info].1 n0 (g.way n0.toNat g.is[info].1) nodes s = seekS g rb rn info g.is[info].1 n0 (g.way n0.toNat g.is[info].1) (nodes.drop 0) s from rfl, hQ], hR'⟩, cv_id⟩
end
end Go.Proofs.Ytiikfkacbglblaa
