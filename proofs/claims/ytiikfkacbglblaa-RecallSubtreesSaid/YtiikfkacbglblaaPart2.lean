/-
  Steps of the proof: contracts of functions and plain facts that the statement rests on.
-/
import Derived.Test.YtiikfkacbglblaaCore5
import Derived.Test.YtiikfkacbglblaaPart1
set_option linter.all false
/- G2 -/
namespace Go.Proofs.Ytiikfkacbglblaa
open Go.Ab
section
variable {H G : List AO}
theorem ok34 (x n : Int) (hn : 0 < n) (hn2 : n ≤ 9223372036854775807) : Ok Try.prog 34 [i64 x, i64 n] H (.ret (i64 (x % n))) H := by
  refine ok_fn hm' Try.func34 c34 (by simp) fun hcl => ?_
  simp -implicitDefEqProofs [i34, r34]
  refine ⟨by omega, ?_⟩
  have h1 := Int.tmod_lt_of_pos x hn
  have h2 := Int.lt_tmod_of_pos x hn
  have h3 := Int.emod_nonneg x (show n ≠ 0 by omega)
  have h4 := Int.emod_lt_of_pos x hn
  have h5 := Int.tmod_eq_emod (a := x) (b := n)
  have h6 : (n.natAbs : Int) = n := by omega
  split
  · have : IntKind.i64.wrap (x.tmod n + n) = x % n := by
      rw [wrap_id (by omega) (by omega)]
      split at h5 <;> omega
    rw [this]; exact cv_id
  · have : x.tmod n = x % n := by split at h5 <;> omega
    rw [this]; exact cv_id
theorem ok59 {l : List Int} {at' n : Int} {jd : Nat} (h : G[jd]? = some ⟨[.slc (ints l) l.length, i64 at'], 96, 0, true⟩) (hl : l.length < 4611686018427387904) (h0 : 0 ≤ at') (hn : n ≤ 9223372036854775807) :
    OkP Try.prog 59 [.ptr (.own jd 0 0 0 0) 0, i64 n] G fun o G' => ∃ v a : Int, o = .ret (i64 v) ∧ 0 ≤ a ∧ 0 ≤ v ∧ (1 ≤ n → v < n) ∧ G' = G.set jd ⟨[.slc (ints l) l.length, i64 a], 96, 0, true⟩ := by
  refine okP_fn hm' Try.func59 c59 (by simp) fun hcl => ?_
  have e := objCells_of h rfl
  have hj := getElem?_lt h
  simp only at e
  simp -implicitDefEqProofs [i59, r59, e, setObj_some h, objCells_set hj]
  split
  · refine ⟨_, _, ⟨0, rfl, at', h0, by omega, fun _ => by omega, ?_⟩, cv_id⟩
    exact (List.ext_getElem? fun i => by
      rw [List.getElem?_set]; split
      · rename_i e; subst e; rw [h]
      · rfl).symm
  · rename_i hc
    have w1 : IntKind.i64.wrap (at' + 1) = at' + 1 := wrap_id (by omega) (by omega)
    have w2 : IntKind.i64.wrap (at' + 1 - 1) = at' := by rw [wrap_id (by omega) (by omega)]; omega
    have hlt : at'.toNat < l.length := by omega
    rw [w1, w2]
    refine ⟨by omega, by omega, ?_⟩
    simp -implicitDefEqProofs [ints_get hlt]
    refine callq_go (fun _ => ok34 _ n (by omega) hn) ?_
    simp -implicitDefEqProofs
    refine ⟨_, _, ⟨_, rfl, at' + 1, by omega, Int.emod_nonneg _ (by omega), fun _ => Int.emod_lt_of_pos _ (by omega), rfl⟩, cv_id⟩
end
end Go.Proofs.Ytiikfkacbglblaa
/- G3 -/
namespace Go.Proofs.Ytiikfkacbglblaa
open Go.Ab
/-- What a player saw. -/
structure Vw where
  pl : Int
  lv : Int
  sn : List Int
  inf : Int
def Vw.cells (v : Vw) : List SV := [i64 v.pl, i64 v.lv, .slc (ints v.sn) v.sn.length, i64 v.inf]
def Nd.cN (x : Nd) : List SV := [i64 x.k, i64 x.p, i64 x.i, slN x.nx, slN x.ws, slN x.ps]
def icN (x : Int × Int) : List SV := [i64 x.1, i64 x.2]
def lcN (x : Int × Int × Int) : List SV := [i64 x.1, i64 x.2.1, i64 x.2.2]
theorem Vw.len (v : Vw) : v.cells.length = 4 := rfl
theorem Nd.lenN (v : Nd) : v.cN.length = 6 := rfl
theorem icN_len (v : Int × Int) : (icN v).length = 2 := rfl
theorem lcN_len (v : Int × Int × Int) : (lcN v).length = 3 := rfl
/-- What stays while a game is made. -/
structure Mc where
  l : List Int
  lv : List (Int × Int × Int)
  vl : Nat
  most : Int
  zero : Bool
  pl : Int
/-- What changes. -/
structure Ms where
  at' : Int
  pend : Int
  vn : Nat
  vi : Nat
  vv : Nat
  ns : List Nd
  is : List (Int × Int)
  vs : List Vw
section
variable (a : Nat) (c : Mc) (s : Ms)
def Mc.D : AO := ⟨[.slc (ints c.l) c.l.length, i64 s.at'], 96, 0, true⟩
def Mc.M : AO := ⟨[.ptr (.own a 0 0 0 0) 0, .own (a + 2) 0 c.lv.length 3 c.vl, .own (a + 3) 0 s.vs.length 4 s.vv, i64 c.most, i64 s.pend, bl c.zero, bl false, i64 c.pl, .own (a + 4) 0 s.ns.length 6 s.vn, .own (a + 5) 0 s.is.length 2 s.vi], 102, 0, true⟩
def Mc.L : AO := ⟨rws lcN c.lv, 104, c.vl, true⟩
def Mc.V : AO := ⟨rws Vw.cells s.vs, 125, s.vv, true⟩
def Mc.N : AO := ⟨rws Nd.cN s.ns, 37, s.vn, true⟩
def Mc.I : AO := ⟨rws icN s.is, 34, s.vi, true⟩
end
/-- The heap of a maker. -/
def Mc.hp (c : Mc) (A B : List AO) (s : Ms) : List AO := A ++ (c.D s :: c.M A.length s :: c.L :: Mc.V s :: Mc.N s :: Mc.I s :: B)
section
variable {A B : List AO} {c : Mc} {s : Ms}
def nextP (c : Mc) (A B : List AO) (s : Ms) (n : Int) (o : Out) (G' : List AO) : Prop := ∃ v a : Int, o = .ret (i64 v) ∧ 0 ≤ a ∧ 0 ≤ v ∧ (1 ≤ n → v < n) ∧ G' = c.hp A B { s with at' := a }
theorem ok59m {n : Int} (hl : c.l.length < 4611686018427387904) (h0 : 0 ≤ s.at') (hn : n ≤ 9223372036854775807) :
    OkP Try.prog 59 [.ptr (.own A.length 0 0 0 0) 0, i64 n] (c.hp A B s) (nextP c A B s n) := by
  refine (ok59 (l := c.l) (at' := s.at') (by simp [Mc.hp, Mc.D]) hl h0 hn).mono ?_
  rintro o G' ⟨v, a, h1, h2, h3, h4, h5⟩
  refine ⟨v, a, h1, h2, h3, h4, ?_⟩
  rw [h5]
  simp [Mc.hp, Mc.D, Mc.M, Mc.V, Mc.N, Mc.I]
set_option maxRecDepth 10000 in
theorem loop74 {pl lv : Int} {sn : List Int} {N : Nat} {K : XE → Env → List AO → Prop} (hv : s.vs.length < 1000000) (hsl : ∀ v ∈ s.vs, v.sn.length ≤ 100)
    (hret : ∀ i (h : i < s.vs.length), s.vs[i].pl = pl → s.vs[i].lv = lv → ∀ env B' L, B' = B ++ L → env.get 8 = i64 s.vs[i].inf → K .ret env (c.hp A B' s))
    (hexit : ∀ env B' L, B' = B ++ L → env.get 0 = .ptr (.own (A.length + 1) 0 0 0 0) 0 → env.get 1 = i64 pl → env.get 2 = i64 lv → env.get 3 = .slc (ints sn) sn.length → K (.exit 0) env (c.hp A B' s)) :
    ∀ (n i : Nat) (env : Env) (B' L : List AO), B' = B ++ L → i + n = s.vs.length → env.get 0 = .ptr (.own (A.length + 1) 0 0 0 0) 0 → env.get 1 = i64 pl → env.get 2 = i64 lv → env.get 3 = .slc (ints sn) sn.length → env.get 9 = i64 i →
      LI Try.prog N drawB l74_0 env (c.hp A B' s) K := by
  intro n
  induction n with
  | zero =>
    intro i env B' L hB hi h0 h1 h2 h3 h9
    refine li_go hm' l74_0.eq_1 ?_
    have e : i = s.vs.length := by omega
    subst e
    simp -implicitDefEqProofs [h0, h1, h2, h3, h9, Mc.hp, Mc.M]
    exact hexit _ B' L hB (by simp [h0]) (by simp [h1]) (by simp [h2]) (by simp [h3])
  | succ n ih =>
    intro i env B' L hB hi h0 h1 h2 h3 h9
    refine li_go hm' l74_0.eq_1 ?_
    have hlt : i < s.vs.length := by omega
    have d := rws_at Vw.len hlt
    have d1 := rws_ge Vw.len hlt
    have d2 := rws_min Vw.len hlt
    rw [Vw.cells, List.cons_append, List.cons_append, List.cons_append, List.cons_append, List.nil_append] at d
    have w1 : IntKind.i64.wrap ((i : Int) + 1) = ((i + 1 : Nat) : Int) := wrap_succ (by omega)
    have hgo : ∀ env' x, env'.get 0 = .ptr (.own (A.length + 1) 0 0 0 0) 0 → env'.get 1 = i64 pl → env'.get 2 = i64 lv → env'.get 3 = .slc (ints sn) sn.length → env'.get 9 = i64 ((i + 1 : Nat) : Int) →
        LI Try.prog N drawB l74_0 env' (c.hp A (B' ++ [x]) s) K := fun env' x g0 g1 g2 g3 g9 => ih (i + 1) env' (B' ++ [x]) (L ++ [x]) (by simp [hB]) (by omega) g0 g1 g2 g3 g9
    have hsn := hsl _ (List.getElem_mem hlt)
    by_cases hp : s.vs[i].pl = pl
    · by_cases hq : s.vs[i].lv = lv
      · simp -implicitDefEqProofs [h0, h1, h2, h3, h9, hlt, Mc.hp, Mc.M, Mc.V, d, d1, d2, hp, hq]
        refine callq_st (fun _ => by simp only [List.map_cons, List.map_nil, SV.strip]; exact ok23 (l := s.vs[i].sn) (m := sn) (isc _ _) (isc _ _) (by omega)) ?_
        by_cases he : s.vs[i].sn = sn
        · simp -implicitDefEqProofs [hlt, d, d1, d2, hp, hq, he]
          have := hret i hlt hp hq
          refine this _ (B' ++ [_]) (L ++ [_]) (by rw [hB, List.append_assoc]) ?_; simp
        · simp -implicitDefEqProofs [hlt, d, d1, d2, hp, hq, he]
          refine hgo _ _ ?_ ?_ ?_ ?_ ?_ <;> simp [h0, h1, h2, h3, w1]
      · simp -implicitDefEqProofs [h0, h1, h2, h3, h9, hlt, Mc.hp, Mc.M, Mc.V, d, d1, d2, hp, hq]
        refine callq_off _ _ _ _ ?_
        simp -implicitDefEqProofs [hlt, d, d1, d2, hp, hq]
        refine hgo _ _ ?_ ?_ ?_ ?_ ?_ <;> simp [h0, h1, h2, h3, w1]
    · simp -implicitDefEqProofs [h0, h1, h2, h3, h9, hlt, Mc.hp, Mc.M, Mc.V, d, d1, d2, hp]
      refine callq_off _ _ _ _ ?_
      simp -implicitDefEqProofs [hlt, d, d1, d2, hp]
      refine hgo _ _ ?_ ?_ ?_ ?_ ?_ <;> simp [h0, h1, h2, h3, w1]
def Ms.addV (s : Ms) (pl lv : Int) (sn : List Int) (k : Int) (a : Int) : Ms :=
  { s with at' := a, vs := s.vs ++ [⟨pl, lv, sn, s.is.length⟩], vv := s.vv + 1, is := s.is ++ [(pl, k)], vi := s.vi + 1 }
theorem slN_under (n : Nat) (l : List Int) : (slN l).under n = true := by unfold slN; split; rfl; simp only [sl, SV.under]; exact underL_ints n l
theorem hp_len : (c.hp A B s).length = A.length + (B.length + 6) := by simp [Mc.hp]
theorem closed_hp {s' : Ms} (h : closed (c.hp A B s)) : closed (c.hp A B s') := by
  intro i o ho x hx
  have hl : (c.hp A B s').length = (c.hp A B s).length := by rw [hp_len, hp_len]
  by_cases h1 : i < A.length
  · have e : (c.hp A B s)[i]? = some o := by
      unfold Mc.hp at ho ⊢; rw [List.getElem?_append_left h1] at ho ⊢; exact ho
    rw [hl]; exact h i o e x hx
  · by_cases h2 : A.length + 6 ≤ i
    · have e : (c.hp A B s)[i]? = some o := by
        unfold Mc.hp at ho ⊢
        obtain ⟨k, rfl⟩ : ∃ k, i = A.length + (k + 6) := ⟨i - A.length - 6, by omega⟩
        rw [List.getElem?_append_right (by omega)] at ho ⊢
        simpa using ho
      rw [hl]; exact h i o e x hx
    · obtain ⟨k, rfl⟩ : ∃ k, i = A.length + k := ⟨i - A.length, by omega⟩
      unfold Mc.hp at ho
      rw [List.getElem?_append_right (by omega)] at ho
      have hk : k < 6 := by omega
      rw [hp_len]
      have e : A.length + k - A.length = k := by omega
      rw [e] at ho
      have key : ∀ l : List SV, SV.underL (A.length + (B.length + 6)) l = true → x ∈ l → x.under (A.length + (B.length + 6)) = true := fun l h1 h2 => (SV.underL_iff _ _).1 h1 x h2
      match k, hk with
      | 0, _ => simp at ho; subst ho; exact key _ (by simp [Mc.D, SV.underL, SV.under]) hx
      | 1, _ => simp at ho; subst ho; exact key _ (by simp [Mc.M, SV.underL, SV.under]) hx
      | 2, _ => simp at ho; subst ho; exact key _ (rws_under (fun x => by simp [lcN, SV.underL, SV.under]) _) hx
      | 3, _ => simp at ho; subst ho; exact key _ (rws_under (fun x => by simp [Vw.cells, SV.underL, SV.under]) _) hx
      | 4, _ => simp at ho; subst ho; exact key _ (rws_under (fun x => by simp [Nd.cN, SV.underL, SV.under, slN_under]) _) hx
      | 5, _ => simp at ho; subst ho; exact key _ (rws_under (fun x => by simp [icN, SV.underL, SV.under]) _) hx
/-- The end of one of the maker's functions. -/
theorem hp_fin {s' : Ms} (h : closed (c.hp A B s)) {B' L : List AO} (hB : B' = B ++ L) {r r' : SV} (hr : r.fz (c.hp A B s').length [] L 2 = r') : Cv (c.hp A B s).length r (c.hp A B' s') r' (c.hp A B s') := by
  subst hB
  have e : c.hp A (B ++ L) s' = c.hp A B s' ++ L := by simp [Mc.hp]
  rw [e]
  exact cv_fz 2 (closed_hp h) (by rw [hp_len, hp_len]) hr
def findP (c : Mc) (A B : List AO) (s : Ms) (pl lv : Int) (sn : List Int) (o : Out) (G' : List AO) : Prop :=
  (∃ i, ∃ h : i < s.vs.length, s.vs[i].pl = pl ∧ s.vs[i].lv = lv ∧ o = .ret (i64 s.vs[i].inf) ∧ G' = c.hp A B s) ∨
  (∃ k a : Int, 1 ≤ k ∧ k ≤ 3 ∧ 0 ≤ a ∧ o = .ret (i64 s.is.length) ∧ G' = c.hp A B (s.addV pl lv sn k a))
set_option maxRecDepth 10000 in
theorem ok74 {pl lv : Int} {sn : List Int} (hl : c.l.length < 4611686018427387904) (h0 : 0 ≤ s.at') (hv : s.vs.length < 1000000) (hi : s.is.length < 1000000) (hsl : ∀ v ∈ s.vs, v.sn.length ≤ 100) :
    OkP Try.prog 74 [.ptr (.own (A.length + 1) 0 0 0 0) 0, i64 pl, i64 lv, .slc (ints sn) sn.length] (c.hp A B s) (findP c A B s pl lv sn) := by
  refine okP_fn hm' Try.func74 c74 (by simp) fun hcl => ?_
  simp -implicitDefEqProofs [i74, r74]
  refine loop74 (B := B) (pl := pl) (lv := lv) (sn := sn) hv hsl (fun i h e1 e2 env B' L hB h8 => ?_) (fun env B' L hB g0 g1 g2 g3 => ?_) s.vs.length 0 _ B [] (by simp) (by omega) (by simp) (by simp) (by simp) (by simp) (by simp)
  · simp -implicitDefEqProofs [h8]
    exact ⟨_, _, .inl ⟨i, h, e1, e2, rfl, rfl⟩, hp_fin hcl hB (fz_i64 _ _ _ _ _)⟩
  · simp -implicitDefEqProofs [g0, g1, g2, g3, Mc.hp, Mc.D, Mc.L, Mc.M, Mc.V, Mc.N, Mc.I, rws_len Vw.len]
    refine ⟨by omega, by omega, ?_⟩
    have h59 := ok59m (A := A) (c := c) (B := B' ++ [⟨[i64 pl, i64 lv, SV.slc (ints sn) sn.length, i64 s.is.length], 125, 0, true⟩]) (n := 3) (s := { s with vs := s.vs ++ [⟨pl, lv, sn, s.is.length⟩], vv := s.vv + 1 }) hl h0 (by omega)
    refine call_goP (by simpa [Mc.hp, Mc.D, Mc.L, Mc.M, Mc.V, Mc.N, Mc.I, rws_app, rws, Vw.cells] using h59) ?_
    rintro o G' ⟨v, a, rfl, h1, h2, h3, rfl⟩
    have w1 : IntKind.i64.wrap (1 + v) = 1 + v := wrap_id (by omega) (by omega)
    have w2 : IntKind.i64.wrap (s.is.length : Int) = s.is.length := wrap_nat (by omega)
    simp -implicitDefEqProofs [g0, g1, g2, g3, Mc.hp, Mc.D, Mc.L, Mc.M, Mc.V, Mc.N, Mc.I, rws_len icN_len, w1, w2]
    refine ⟨by omega, by omega, _, _, .inr ⟨1 + v, a, by omega, by omega, h1, rfl, rfl⟩, ?_⟩
    have hf := hp_fin (s' := s.addV pl lv sn (1 + v) a) hcl (B' := B' ++ [⟨[i64 pl, i64 lv, SV.slc (ints sn) sn.length, i64 s.is.length], 125, 0, true⟩, ⟨[i64 pl, i64 (1 + v)], 34, 0, true⟩]) (L := L ++ _) (by rw [hB, List.append_assoc]) (r := i64 s.is.length) (fz_i64 _ _ _ _ _)
    simpa [Ms.addV, Mc.hp, Mc.D, Mc.L, Mc.M, Mc.V, Mc.N, Mc.I, rws_app, rws, Vw.cells, icN] using hf
end
end Go.Proofs.Ytiikfkacbglblaa
/- G4 -/
namespace Go.Proofs.Ytiikfkacbglblaa
open Go.Ab
section
variable {A B : List AO} {c : Mc} {s : Ms}
set_option maxRecDepth 10000 in
theorem loop75 {info : Int} {N : Nat} {K : XE → Env → List AO → Prop} (hn : s.ns.length < 1000000)
    (hret : (∃ x ∈ s.ns, x.k = 2 ∧ x.i = info) → ∀ env, K .ret env (c.hp A B s))
    (hexit : (∀ x ∈ s.ns, ¬ (x.k = 2 ∧ x.i = info)) → ∀ env, env.get 0 = .ptr (.own (A.length + 1) 0 0 0 0) 0 → env.get 1 = i64 info → K (.exit 0) env (c.hp A B s)) :
    ∀ (n i : Nat) (env : Env), i + n = s.ns.length → (∀ j (h : j < s.ns.length), j < i → ¬ (s.ns[j].k = 2 ∧ s.ns[j].i = info)) → env.get 0 = .ptr (.own (A.length + 1) 0 0 0 0) 0 → env.get 1 = i64 info → env.get 6 = i64 i →
      LI Try.prog N drawB l75_0 env (c.hp A B s) K := by
  intro n
  induction n with
  | zero =>
    intro i env hi hj h0 h1 h6
    refine li_go hm' l75_0.eq_1 ?_
    have e : i = s.ns.length := by omega
    subst e
    simp -implicitDefEqProofs [h0, h1, h6, Mc.hp, Mc.M]
    exact hexit (fun x hx => by obtain ⟨j, hj', rfl⟩ := List.getElem_of_mem hx; exact hj j hj' hj') _ (by simp [h0]) (by simp [h1])
  | succ n ih =>
    intro i env hi hj h0 h1 h6
    refine li_go hm' l75_0.eq_1 ?_
    have hlt : i < s.ns.length := by omega
    have d := rws_at Nd.lenN hlt
    have d1 := rws_ge Nd.lenN hlt
    rw [Nd.cN] at d
    simp only [List.cons_append, List.nil_append] at d
    have d3 := rws_get Nd.lenN (t := 0) hlt (by omega)
    have d4 := rws_get Nd.lenN (t := 2) hlt (by omega)
    simp only [Nd.cN, List.getElem?_cons_zero, List.getElem?_cons_succ, Nat.add_zero] at d3 d4
    have w1 : IntKind.i64.wrap ((i : Int) + 1) = ((i + 1 : Nat) : Int) := wrap_succ (by omega)
    by_cases hp : s.ns[i].k = 2
    · by_cases hq : s.ns[i].i = info
      · simp -implicitDefEqProofs [h0, h1, h6, hlt, Mc.hp, Mc.M, Mc.N, d, d1, d3, d4, hp, hq]
        refine ⟨by omega, ?_⟩
        exact hret ⟨_, List.getElem_mem hlt, hp, hq⟩ _
      · simp -implicitDefEqProofs [h0, h1, h6, hlt, Mc.hp, Mc.M, Mc.N, d, d1, d3, d4, hp, hq]
        refine ⟨by omega, ?_⟩
        refine ih (i + 1) _ (by omega) (fun j h h' => ?_) ?_ ?_ ?_
        · by_cases e : j = i
          · subst e; simp [hq]
          · exact hj j h (by omega)
        all_goals simp [h0, h1, w1]
    · simp -implicitDefEqProofs [h0, h1, h6, hlt, Mc.hp, Mc.M, Mc.N, d, d1, d3, d4, hp]
      refine ih (i + 1) _ (by omega) (fun j h h' => ?_) ?_ ?_ ?_
      · by_cases e : j = i
        · subst e; simp [hp]
        · exact hj j h (by omega)
      all_goals simp [h0, h1, w1]
def Ms.cut (s : Ms) : Ms := { s with is := s.is.take (s.is.length - 1), vs := s.vs.take (s.vs.length - 1) }
def dropP (c : Mc) (A B : List AO) (s : Ms) (info pl : Int) (o : Out) (G' : List AO) : Prop :=
  o = .ret (.tup []) ∧ (((pl < 0 ∨ info ≠ s.is.length - 1 ∨ ∃ x ∈ s.ns, x.k = 2 ∧ x.i = info) ∧ G' = c.hp A B s) ∨
    (0 ≤ pl ∧ info = s.is.length - 1 ∧ (∀ x ∈ s.ns, ¬ (x.k = 2 ∧ x.i = info)) ∧ G' = c.hp A B s.cut))
set_option maxRecDepth 10000 in
theorem ok75 {info pl : Int} (hn : s.ns.length < 1000000) (hi : s.is.length < 1000000) (hi1 : 0 ≤ pl → 1 ≤ s.is.length) (hv : s.vs.length = s.is.length) :
    OkP Try.prog 75 [.ptr (.own (A.length + 1) 0 0 0 0) 0, i64 info, i64 pl] (c.hp A B s) (dropP c A B s info pl) := by
  refine okP_fn hm' Try.func75 c75 (by simp) fun hcl => ?_
  have w1 : IntKind.i64.wrap ((s.is.length : Int) - 1) = s.is.length - 1 := wrap_id (by omega) (by omega)
  by_cases hp : pl < 0
  · simp -implicitDefEqProofs [i75, r75, hp]
    exact ⟨_, _, ⟨rfl, .inl ⟨.inl hp, rfl⟩⟩, cv_id⟩
  · by_cases hq : info = s.is.length - 1
    · have ha : c.hp A B s = A ++ (c.D s :: c.M A.length s :: c.L :: Mc.V s :: Mc.N s :: Mc.I s :: B) := rfl
      rw [ha]
      simp -implicitDefEqProofs [i75, r75, hp, Mc.M, w1, hq]
      rw [← hq]
      refine loop75 (A := A) (B := B) (c := c) (s := s) (info := info) hn (fun hx env => ?_) (fun hx env g0 g1 => ?_) s.ns.length 0 _ (by omega) (fun j h h' => by omega) (by simp) (by simp) (by simp)
      · simp -implicitDefEqProofs
        exact ⟨_, _, ⟨rfl, .inl ⟨.inr (.inr hx), rfl⟩⟩, cv_id⟩
      · simp -implicitDefEqProofs [g0, g1, Mc.hp, Mc.M, hq, w1, hv, rws_len]
        refine ⟨by omega, _, _, ⟨rfl, .inr ⟨by omega, rfl, by rw [← hq]; exact hx, rfl⟩⟩, ?_⟩
        have e1 := cv_trunc (n0 := A.length + (B.length + 6)) (r := .tup []) (H := A ++ (c.D s :: c.M A.length s.cut :: c.L :: Mc.V s :: Mc.N s :: Mc.I s :: B)) (j := A.length + 3) (o := Mc.V s) (by simp) (by rw [List.getElem?_append_right (by omega)]; simp) rfl ((s.vs.length - 1) * 4)
        have e2 := cv_trunc (n0 := A.length + (B.length + 6)) (r := .tup []) (H := A ++ (c.D s :: c.M A.length s.cut :: c.L :: Mc.V s.cut :: Mc.N s :: Mc.I s :: B)) (j := A.length + 5) (o := Mc.I s) (by simp) (by rw [List.getElem?_append_right (by omega)]; simp) rfl ((s.is.length - 1) * 2)
        have t1 := rws_take Vw.len s.vs (s.vs.length - 1) (by omega)
        have t2 := rws_take icN_len s.is (s.is.length - 1) (by omega)
        have m1 : min (s.vs.length - 1) s.vs.length = s.vs.length - 1 := by omega
        have m2 : min (s.is.length - 1) s.is.length = s.is.length - 1 := by omega
        have e3 := Cv.trans (r2 := .tup []) (r3 := .tup []) (by simpa [Mc.hp, Mc.M, Mc.V, Mc.N, Mc.I, Mc.D, Ms.cut, t1, t2, m1, m2] using e1) (by simpa [Mc.hp, Mc.M, Mc.V, Mc.N, Mc.I, Mc.D, Ms.cut, t1, t2, m1, m2] using e2)
        simpa [Mc.hp, Mc.M, Mc.V, Mc.N, Mc.I, Mc.D, Ms.cut, t1, t2, m1, m2, hv] using e3
    · have ha : c.hp A B s = A ++ (c.D s :: c.M A.length s :: c.L :: Mc.V s :: Mc.N s :: Mc.I s :: B) := rfl
      rw [ha]
      simp -implicitDefEqProofs [i75, r75, hp, Mc.M, w1, hq]
      exact ⟨_, _, ⟨rfl, .inl ⟨.inr (.inl hq), rfl⟩⟩, cv_id⟩
end
end Go.Proofs.Ytiikfkacbglblaa
/- G5 -/
namespace Go.Proofs.Ytiikfkacbglblaa
open Go.Ab
section
variable {A B : List AO} {c : Mc} {s : Ms}
def endX (A B : List AO) (ps : List Int) : AO := ⟨[i64 3, i64 0, i64 0, .val (.slice none 0 0), .val (.slice none 0 0), .own (A.length + (B.length + 7)) 0 ps.length 1 ps.length], 37, 0, true⟩
def endP (ps : List Int) : AO := ⟨ints ps, 3, ps.length, true⟩
set_option maxRecDepth 10000 in
theorem loop73 {np : Nat} {at' : Int} {N : Nat} {K : XE → Env → List AO → Prop} (hl : c.l.length < 4611686018427387904) (hp : c.pl = np) (hnp : np ≤ 1000)
    (hexit : ∀ env ps L a, ps.length = np → (∀ w ∈ ps, -3 ≤ w ∧ w ≤ 3) → 0 ≤ a → env.get 0 = .ptr (.own (A.length + 1) 0 0 0 0) 0 → env.get 1 = i64 at' → env.get 4 = .ptr (.own (A.length + (B.length + 6)) 0 0 0 0) 0 →
      K (.exit 0) env (c.hp A (B ++ endX A B ps :: endP ps :: L) { s with at' := a })) :
    ∀ (n : Nat) (env : Env) (ps : List Int) (L : List AO) (a : Int), ps.length + n = np → (∀ w ∈ ps, -3 ≤ w ∧ w ≤ 3) → 0 ≤ a → env.get 0 = .ptr (.own (A.length + 1) 0 0 0 0) 0 → env.get 1 = i64 at' → env.get 4 = .ptr (.own (A.length + (B.length + 6)) 0 0 0 0) 0 → env.get 5 = i64 ps.length →
      LI Try.prog N drawB l73_0 env (c.hp A (B ++ endX A B ps :: endP ps :: L) { s with at' := a }) K := by
  intro n
  induction n with
  | zero =>
    intro env ps L a hn hw ha h0 h1 h4 h5
    refine li_go hm' l73_0.eq_1 ?_
    have e : ps.length = np := by omega
    simp -implicitDefEqProofs [h0, h1, h4, h5, Mc.hp, Mc.M, show ¬ ((ps.length : Int) < c.pl) by omega]
    refine hexit _ ps L a e hw ha ?_ ?_ ?_ <;> simp [h0, h1, h4]
  | succ n ih =>
    intro env ps L a hn hw ha h0 h1 h4 h5
    refine li_go hm' l73_0.eq_1 ?_
    have hlt : ps.length < np := by omega
    simp -implicitDefEqProofs [h0, h1, h4, h5, Mc.hp, Mc.M, show (ps.length : Int) < c.pl by omega, endX, endP]
    have h59 := ok59m (A := A) (c := c) (B := B ++ endX A B ps :: endP ps :: L) (n := 7) (s := { s with at' := a }) hl ha (by omega)
    refine call_goP (by simpa [Mc.hp, Mc.D, Mc.L, Mc.M, Mc.V, Mc.N, Mc.I, endX, endP] using h59) ?_
    rintro o G' ⟨v, a', rfl, h1', h2, h3, rfl⟩
    have w1 : IntKind.i64.wrap (v - 3) = v - 3 := wrap_id (by omega) (by omega)
    have w2 : IntKind.i64.wrap ((ps.length : Int) + 1) = ((ps.length + 1 : Nat) : Int) := wrap_succ (by omega)
    simp -implicitDefEqProofs [h0, h1, h4, h5, Mc.hp, Mc.D, Mc.L, Mc.M, Mc.V, Mc.N, Mc.I, endX, endP, w1]
    refine ⟨by omega, by omega, ?_⟩
    refine LI.cong (H' := c.hp A (B ++ endX A B (ps ++ [v - 3]) :: endP (ps ++ [v - 3]) :: (L ++ [⟨[i64 (v - 3)], 3, 0, true⟩])) { s with at' := a' }) (by simp [Mc.hp, Mc.D, Mc.L, Mc.M, Mc.V, Mc.N, Mc.I, endX, endP, show ints (ps ++ [v - 3]) = ints ps ++ [i64 (v - 3)] by simp [ints]]) (ih _ _ _ _ (by simp; omega) ?_ h1' ?_ ?_ ?_ ?_)
    · intro w hw'
      rcases List.mem_append.1 hw' with h | h
      · exact hw w h
      · simp at h; omega
    all_goals simp [h0, h1, h4, w2]
theorem hp_setN (n : AO) : (c.hp A B s).set (A.length + 4) n = A ++ (c.D s :: c.M A.length s :: c.L :: Mc.V s :: n :: Mc.I s :: B) := by
  unfold Mc.hp; rw [List.set_append_right _ _ (by omega)]; simp
theorem cN_cells (x : Nd) : cellsOk x.cN := by
  intro y hy
  have hs : ∀ l : List Int, (slN l).isCell = true := fun l => by unfold slN; split <;> rfl
  simp only [Nd.cN, List.mem_cons, List.not_mem_nil, or_false] at hy
  rcases hy with rfl | rfl | rfl | rfl | rfl | rfl
  · rfl
  · rfl
  · rfl
  · exact hs _
  · exact hs _
  · exact hs _
theorem cN_under (n : Nat) (x : Nd) : SV.underL n x.cN = true := by simp [Nd.cN, SV.underL, SV.under, slN_under]
/-- THE END OF A FUNCTION that has written a node. -/
theorem fin_node {n0 k : Nat} {L : List AO} {r : SV} {x : Nd} {cx : List SV} (hcl : closed (c.hp A B s)) (hn : n0 ≤ A.length + (B.length + 6)) (hk : k < s.ns.length) (hx : cx.map (SV.fz (A.length + (B.length + 6)) [] L 2) = x.cN) :
    Cv n0 r (A ++ (c.D s :: c.M A.length s :: c.L :: Mc.V s :: ⟨(rws Nd.cN s.ns).take (k * 6) ++ (cx ++ (rws Nd.cN s.ns).drop (k * 6 + 6)), 37, s.vn, true⟩ :: Mc.I s :: (B ++ L))) (r.fz (A.length + (B.length + 6)) [] L 2) (c.hp A B { s with ns := s.ns.set k x }) := by
  have hu0 := rws_under (cN_under (A.length + (B.length + 6))) s.ns
  have hm : ∀ l : List SV, (∀ y ∈ l, y ∈ rws Nd.cN s.ns) → l.map (SV.fz (A.length + (B.length + 6)) [] L 2) = l := by
    intro l hl
    exact map_fz_under _ [] L 1 ((SV.underL_iff _ _).2 fun y hy => (SV.underL_iff _ _).1 hu0 y (hl y hy))
  have hc : ((rws Nd.cN s.ns).take (k * 6) ++ (cx ++ (rws Nd.cN s.ns).drop (k * 6 + 6))).map (SV.fz (A.length + (B.length + 6)) [] L 2) = rws Nd.cN (s.ns.set k x) := by
    rw [List.map_append, List.map_append, hx, hm _ (fun y hy => List.mem_of_mem_take hy), hm _ (fun y hy => List.mem_of_mem_drop hy), rws_set Nd.lenN hk]
  have hlen : ((c.hp A B s).set (A.length + 4) ⟨(rws Nd.cN s.ns).take (k * 6) ++ (cx ++ (rws Nd.cN s.ns).drop (k * 6 + 6)), 37, s.vn, true⟩).length = A.length + (B.length + 6) := by rw [List.length_set, hp_len]
  have hz := Refz.one (L := L) (ks := []) (d := 2) (j := A.length + 4) (H0 := (c.hp A B s).set (A.length + 4) ⟨(rws Nd.cN s.ns).take (k * 6) ++ (cx ++ (rws Nd.cN s.ns).drop (k * 6 + 6)), 37, s.vn, true⟩)
    (fun i o hi ho y hy => by rw [List.getElem?_set_ne (by omega)] at ho; rw [List.length_set]; exact hcl i o ho y hy)
    (List.getElem?_set_self (by rw [hp_len]; omega)) rfl (by rw [hlen, hc]; exact rws_cells cN_cells _)
  rw [hlen, hc, List.set_set, hp_setN, hp_setN] at hz
  have := cv_noneM (n0 := n0) (r := r) (Hx := A ++ (c.D s :: c.M A.length s :: c.L :: Mc.V s :: ⟨(rws Nd.cN s.ns).take (k * 6) ++ (cx ++ (rws Nd.cN s.ns).drop (k * 6 + 6)), 37, s.vn, true⟩ :: Mc.I s :: (B ++ L))) 2 (by simp) (by simp; omega) hz
  rw [hp_setN] at hlen
  rw [hlen] at this
  have e : c.hp A B { s with ns := s.ns.set k x } = A ++ (c.D s :: c.M A.length s :: c.L :: Mc.V s :: ⟨rws Nd.cN (s.ns.set k x), 37, s.vn, true⟩ :: Mc.I s :: B) := by simp [Mc.hp, Mc.D, Mc.M, Mc.V, Mc.N, Mc.I]
  rw [e]; exact this
def Ms.endN (s : Ms) (k : Nat) (ps : List Int) (a : Int) : Ms := { s with at' := a, ns := s.ns.set k ⟨3, 0, 0, [], [], ps⟩ }
def endQ (c : Mc) (A B : List AO) (s : Ms) (k : Nat) (o : Out) (G' : List AO) : Prop :=
  o = .ret (.tup []) ∧ ∃ (ps : List Int) (a : Int), (ps.length : Int) = c.pl ∧ (∀ w ∈ ps, -3 ≤ w ∧ w ≤ 3) ∧ 0 ≤ a ∧ G' = c.hp A B (s.endN k ps a)
set_option maxRecDepth 10000 in
theorem ok73 {k : Nat} (hl : c.l.length < 4611686018427387904) (h0 : 0 ≤ s.at') (hp : 1 ≤ c.pl) (hp2 : c.pl ≤ 1000) (hk : k < s.ns.length) (hn : s.ns.length < 1000000) :
    OkP Try.prog 73 [.ptr (.own (A.length + 1) 0 0 0 0) 0, i64 k] (c.hp A B s) (endQ c A B s k) := by
  refine okP_fn hm' Try.func73 c73 (by simp) fun hcl => ?_
  obtain ⟨np, hnp⟩ : ∃ np : Nat, c.pl = np := ⟨c.pl.toNat, by omega⟩
  have ha : c.hp A B s = A ++ (c.D s :: c.M A.length s :: c.L :: Mc.V s :: Mc.N s :: Mc.I s :: B) := rfl
  rw [ha]
  simp -implicitDefEqProofs [i73, r73]
  refine ⟨rfl, LI.tell (Tell.own0 (j := A.length + (B.length + 6)) (p := 5) (o := ⟨[i64 3, i64 0, i64 0, .val (.slice none 0 0), .val (.slice none 0 0), .val (.slice none 0 0)], 37, 0, true⟩) ?_ rfl rfl 3 1) ?_⟩
  · rw [List.getElem?_append_right (Nat.le_add_right _ _), Nat.add_sub_cancel_left]; simp
  simp -implicitDefEqProofs
  refine loop73 (A := A) (B := B) (c := c) (s := s) (np := np) (at' := k) hl hnp (by omega) (fun env ps L a hps hw ha' g0 g1 g4 => ?_) np _ [] [] s.at' (by simp) (by simp) h0 (by simp) (by simp) (by simp) (by simp)
  have hle := rws_le Nd.lenN hk
  have key : ∀ ps' : List Int, ps'.length = np → (∀ w ∈ ps', -3 ≤ w ∧ w ≤ 3) → FinQ (A.length + (B.length + 6)) (endQ c A B s k) (.tup [])
      (A ++ (c.D { s with at' := a } :: c.M A.length s :: c.L :: Mc.V s :: ⟨(rws Nd.cN s.ns).take (k * 6) ++ ([i64 3, i64 0, i64 0, .val (.slice none 0 0), .val (.slice none 0 0), .own (A.length + (B.length + 7)) 0 ps.length 1 ps.length] ++ (rws Nd.cN s.ns).drop (k * 6 + 6)), 37, s.vn, true⟩ :: Mc.I s ::
        (B ++ endX A B ps :: ⟨ints ps', 3, ps.length, true⟩ :: L))) := by
    intro ps' hps' hw'
    have hne : ps' ≠ [] := by intro e; subst e; simp at hps'; omega
    refine ⟨_, _, ⟨rfl, ps', a, by omega, hw', ha', rfl⟩, ?_⟩
    have := fin_node (A := A) (B := B) (c := c) (s := { s with at' := a }) (n0 := A.length + (B.length + 6)) (k := k) (L := endX A B ps :: ⟨ints ps', 3, ps.length, true⟩ :: L) (r := .tup []) (x := ⟨3, 0, 0, [], [], ps'⟩)
      (cx := [i64 3, i64 0, i64 0, .val (.slice none 0 0), .val (.slice none 0 0), .own (A.length + (B.length + 7)) 0 ps.length 1 ps.length]) (closed_hp hcl) (by omega) hk (by
        have e1 : SV.fz (A.length + (B.length + 6)) [] (endX A B ps :: ⟨ints ps', 3, ps.length, true⟩ :: L) 2 (.own (A.length + (B.length + 7)) 0 ps.length 1 ps.length) = .slc (ints ps') ps'.length := by
          have h := fz_own (n := A.length + (B.length + 6)) (ks := []) (L := endX A B ps :: ⟨ints ps', 3, ps.length, true⟩ :: L) (d := 1) 1 0 ps.length 1 ps.length
          rw [show A.length + (B.length + 7) = A.length + (B.length + 6) + 1 by omega, h]
          simp [placeOf, hps, hps', show (ints ps').length = np by simp [ints, hps'], List.take_of_length_le]
        simp [Nd.cN, slN, hne, e1, sl, fz_under, SV.under])
    simp [Mc.hp, Ms.endN, Mc.D, Mc.L, Mc.M, Mc.V, Mc.N, Mc.I] at this ⊢
    exact this
  simp -implicitDefEqProofs [g0, g1, g4, Mc.hp, Mc.D, Mc.L, Mc.M, Mc.V, Mc.N, Mc.I, endX, endP]
  by_cases hz : c.zero = true ∧ c.pl = 2
  · rw [if_pos hz]
    have h2 : np = 2 := by omega
    match ps, hps, hw, key with
    | [x, y], hps, hw, key =>
      have hx := hw x (by simp)
      have w1 : IntKind.i64.wrap (-x) = -x := wrap_id (by omega) (by omega)
      simp [ints, w1]
      refine ⟨hk, rfl, hle, ?_⟩
      have := key [x, -x] (by simp [h2]) (by intro w h; simp at h; omega)
      simpa [Mc.D, Mc.L, Mc.M, Mc.V, Mc.N, Mc.I, endX, ints] using this
    | [], hps, _, _ => simp at hps; omega
    | [_], hps, _, _ => simp at hps; omega
    | _ :: _ :: _ :: _, hps, _, _ => simp at hps; omega
  · rw [if_neg hz]
    refine ⟨hk, rfl, hle, ?_⟩
    have := key ps hps hw
    simpa [Mc.D, Mc.L, Mc.M, Mc.V, Mc.N, Mc.I, endX] using this
end
end Go.Proofs.Ytiikfkacbglblaa
/- G6 -/
namespace Go.Proofs.Ytiikfkacbglblaa
open Go.Ab
section
variable {A B : List AO} {c : Mc} {s : Ms}
def nowO (l : List (List Int)) : AO := ⟨l.map sl, 35, l.length, true⟩
def seenV (l : List (List Int)) : SV := .slc (l.map sl) l.length
set_option maxRecDepth 10000 in
theorem loop60_1 {seen : List (List Int)} {jp : Nat} {x0 x1 x2 i : Int} {N : Nat} {K : XE → Env → List AO → Prop} {y1 y7 y9 : Int} {y11 : Nat} {m : Nat} (hcl : closed (c.hp A B s)) (hs : seen.length ≤ 1000) (hsl : ∀ l ∈ seen, l.length ≤ m) (hm : m ≤ 1000)
    (hpb : B[jp]? = some ⟨[i64 x0, i64 x1, i64 x2], 104, 0, true⟩)
    (hexit : ∀ env L l, Cl 0 L → l.length = seen.length → (∀ x ∈ l, x.length ≤ m + 1) → env.get 0 = .ptr (.own (A.length + 1) 0 0 0 0) 0 → env.get 1 = i64 y1 → env.get 2 = seenV seen → env.get 7 = i64 y7 → env.get 8 = .ptr (.own (A.length + (jp + 6)) 0 0 0 0) 0 → env.get 9 = i64 y9 → env.get 11 = .ptr (.own y11 0 0 0 0) 0 → env.get 12 = i64 i →
      env.get 13 = .own (A.length + (B.length + 6)) 0 seen.length 1 seen.length → K (.exit 2) env (c.hp A (B ++ nowO l :: L) s)) :
    ∀ (n : Nat) (env : Env) (l : List (List Int)) (L : List AO), l.length + n = seen.length → Cl 0 L → (∀ x ∈ l, x.length ≤ m + 1) → env.get 0 = .ptr (.own (A.length + 1) 0 0 0 0) 0 → env.get 1 = i64 y1 → env.get 2 = seenV seen → env.get 7 = i64 y7 → env.get 8 = .ptr (.own (A.length + (jp + 6)) 0 0 0 0) 0 → env.get 9 = i64 y9 → env.get 11 = .ptr (.own y11 0 0 0 0) 0 → env.get 12 = i64 i →
      env.get 13 = .own (A.length + (B.length + 6)) 0 l.length 1 l.length → env.get 14 = i64 l.length → LI Try.prog N drawB l60_1 env (c.hp A (B ++ nowO l :: L) s) K := by
  intro n
  induction n with
  | zero =>
    intro env l L hn hL hl h0 h1 h2 h7 h8 h9 h11 h12 h13 h14
    refine li_go hm' l60_1.eq_1 ?_
    have e : l.length = seen.length := by omega
    simp -implicitDefEqProofs [h0, h1, h2, h7, h8, h9, h11, h12, h13, h14, seenV, e]
    refine hexit _ L l hL e hl ?_ ?_ ?_ ?_ ?_ ?_ ?_ ?_ ?_ <;> simp [h0, h1, h2, h7, h8, h9, h11, h12, h13, e, seenV]
  | succ n ih =>
    intro env l L hn hL hl h0 h1 h2 h7 h8 h9 h11 h12 h13 h14
    refine li_go hm' l60_1.eq_1 ?_
    have hlt : l.length < seen.length := by omega
    have ep : ∀ X, objCells (B ++ X) jp 0 = [i64 x0, i64 x1, i64 x2] := fun X => by rw [objCells_app X (getElem?_lt hpb)]; exact objCells_of hpb rfl
    have hle := hsl _ (List.getElem_mem hlt)
    have w1 : IntKind.i64.wrap ((l.length : Int) + 1) = ((l.length + 1 : Nat) : Int) := wrap_succ (by omega)
    have key : ∀ (v : Int) (env : Env), env.get 0 = .ptr (.own (A.length + 1) 0 0 0 0) 0 → env.get 1 = i64 y1 → env.get 2 = seenV seen → env.get 7 = i64 y7 → env.get 8 = .ptr (.own (A.length + (jp + 6)) 0 0 0 0) 0 → env.get 9 = i64 y9 → env.get 11 = .ptr (.own y11 0 0 0 0) 0 → env.get 12 = i64 i →
        env.get 13 = .own (A.length + (B.length + 6)) 0 (l.length + 1) 1 (l.length + 1) → env.get 14 = i64 ((l.length + 1 : Nat) : Int) →
        LI Try.prog N drawB l60_1 env (A ++ (c.D s :: c.M A.length s :: c.L :: Mc.V s :: Mc.N s :: Mc.I s :: (B ++ ⟨l.map sl ++ [.own (A.length + (B.length + (L.length + 7))) 0 (seen[l.length].length + 1) 1 2], 35, l.length + 1, true⟩ ::
          (L ++ [⟨ints seen[l.length] ++ [i64 v], 3, 2, true⟩, ⟨[i64 v], 3, 0, true⟩, ⟨[.own (A.length + (B.length + (L.length + 7))) 0 (seen[l.length].length + 1) 1 2], 35, 0, true⟩])))) K := by
      intro v env g0 g1 g2 g7 g8 g9 g11 g12 g13 g14
      have el : ints seen[l.length] ++ [i64 v] = ints (seen[l.length] ++ [v]) := by simp [ints]
      rw [el]
      refine LI.cong (H' := c.hp A B s ++ (⟨l.map sl ++ [.own (A.length + (B.length + (L.length + 7))) 0 (seen[l.length].length + 1) 1 2], 35, l.length + 1, true⟩ ::
          (L ++ [⟨ints (seen[l.length] ++ [v]), 3, 2, true⟩, ⟨[i64 v], 3, 0, true⟩, ⟨[.own (A.length + (B.length + (L.length + 7))) 0 (seen[l.length].length + 1) 1 2], 35, 0, true⟩]))) (by simp [Mc.hp]) ?_
      refine LI.tell (Tell.give hcl (L.length + 1) 1 (o := ⟨ints (seen[l.length] ++ [v]), 3, 2, true⟩) (by simp) rfl) ?_
      have hk : (c.hp A B s).length + (L.length + 1) = A.length + (B.length + (L.length + 7)) := by rw [hp_len]; omega
      have hg : SV.gv (A.length + (B.length + (L.length + 7))) 2 (ints (seen[l.length] ++ [v])) 1 (.own (A.length + (B.length + (L.length + 7))) 0 (seen[l.length].length + 1) 1 2) = sl (seen[l.length] ++ [v]) := by
        simp [sl, show (ints (seen[l.length] ++ [v])).length = seen[l.length].length + 1 by simp [ints], List.take_of_length_le]
      have hgi : ∀ k : Int, SV.gv (A.length + (B.length + (L.length + 7))) 2 (ints (seen[l.length] ++ [v])) 1 (i64 k) = i64 k := fun k => rfl
      have hgl : (l.map sl).map (SV.gv (A.length + (B.length + (L.length + 7))) 2 (ints (seen[l.length] ++ [v])) 1) = l.map sl := by simp [Function.comp_def, sl]
      refine LI.cong (H' := c.hp A B s ++ (nowO (l ++ [seen[l.length] ++ [v]]) :: (L ++ [⟨[], 3, 3, false⟩, ⟨[i64 v], 3, 0, true⟩, ⟨[sl (seen[l.length] ++ [v])], 35, 0, true⟩]))) ?_ ?_
      · rw [hk]
        simp [AO.gv_cl (Nat.zero_le _) hL, hg, hgi, hgl, nowO, AO.dead]
      · refine LI.cong (H' := c.hp A (B ++ (nowO (l ++ [seen[l.length] ++ [v]]) :: (L ++ [⟨[], 3, 3, false⟩, ⟨[i64 v], 3, 0, true⟩, ⟨[sl (seen[l.length] ++ [v])], 35, 0, true⟩]))) s) (by simp [Mc.hp]) ?_
        rw [hk]
        refine ih _ _ _ (by simp; omega) ?_ ?_ ?_ ?_ ?_ ?_ ?_ ?_ ?_ ?_ ?_ ?_
        · exact hL.app (Cl.cons rfl (Cl.cons rfl (Cl.cons (by simp [SV.underL, sl, SV.under]) (Cl.nil _))))
        · intro x hx
          rcases List.mem_append.1 hx with h | h
          · exact hl x h
          · simp at h; subst h; simp; omega
        all_goals rw [get_map _ (SV.gv _ _ _ _) (gv_any _ _ _ _)]; simp [g0, g1, g2, g7, g8, g9, g11, g12, g13, g14, seenV]
    simp -implicitDefEqProofs [h0, h1, h2, h7, h8, h9, h11, h12, h13, h14, seenV, hlt, Mc.hp, sl, ep, nowO, Nat.add_assoc]
    refine ⟨by omega, by omega, by omega, ?_⟩
    split
    · refine ⟨by omega, by omega, by omega, by omega, ?_⟩
      refine key i _ ?_ ?_ ?_ ?_ ?_ ?_ ?_ ?_ ?_ ?_ <;> simp [h0, h1, h2, h7, h8, h9, h11, h12, h13, h14, w1, seenV]
    · refine ⟨by omega, by omega, by omega, by omega, ?_⟩
      refine key (-1) _ ?_ ?_ ?_ ?_ ?_ ?_ ?_ ?_ ?_ ?_ <;> simp [h0, h1, h2, h7, h8, h9, h11, h12, h13, h14, w1, seenV]
end
end Go.Proofs.Ytiikfkacbglblaa
/- G7 -/
namespace Go.Proofs.Ytiikfkacbglblaa
open Go.Ab
/-- What stays, in its bounds. -/
structure Mc.Good (c : Mc) : Prop where
  l : c.l.length < 4611686018427387904
  p1 : 1 ≤ c.pl
  p2 : c.pl ≤ 1000
  m : c.most ≤ 2000
  lv : c.lv.length ≤ 100
  lvr : ∀ q ∈ c.lv, -1 ≤ q.1 ∧ q.1 < c.pl ∧ 2 ≤ q.2.1 ∧ q.2.1 ≤ 3
/-- What holds of the maker's state at a level. -/
structure MInv (c : Mc) (s : Ms) (level : Nat) : Prop where
  a0 : 0 ≤ s.at'
  vl : s.vs.length = s.is.length
  vi : ∀ j (h : j < s.vs.length), s.vs[j].inf = j ∧ s.vs[j].pl = (s.is[j]'(by omega)).1
  vsn : ∀ v ∈ s.vs, v.sn.length ≤ 100
  used : ∀ j (h : j < s.vs.length), (level : Int) ≤ s.vs[j].lv → ∃ x ∈ s.ns, x.k = 2 ∧ x.i = j
  isr : ∀ q ∈ s.is, 0 ≤ q.1 ∧ q.1 < c.pl ∧ 1 ≤ q.2 ∧ q.2 ≤ 3
  nsr : ∀ x ∈ s.ns, x.k = 2 → 0 ≤ x.i ∧ x.i < s.is.length
  il : s.is.length ≤ s.ns.length
  ml : (s.ns.length : Int) + s.pend ≤ c.most
/-- What a subtree that has been made adds. -/
structure MPost (c : Mc) (s s' : Ms) (level h : Nat) (sub : List Nd) (isN : List (Int × Int)) (vsN : List Vw) : Prop where
  ns : s'.ns = s.ns ++ sub
  is : s'.is = s.is ++ isN
  vs : s'.vs = s.vs ++ vsN
  pend : s'.pend = s.pend - 1
  lv : ∀ v ∈ vsN, (level : Int) ≤ v.lv
  wlk : Wlk s.ns.length h sub
  rg : rg sub s.is.length = some s'.is.length
  good : ∀ x ∈ sub, x.good c.pl s'.is
  inv : MInv c s' level
def buildP (c : Mc) (A B : List AO) (s : Ms) (level : Nat) (o : Out) (G' : List AO) : Prop :=
  o = .ret (i64 s.ns.length) ∧ ∃ s' sub isN vsN, MPost c s s' level (c.lv.length - level) sub isN vsN ∧ G' = c.hp A B s'
/-- That the code of build does so, at a level. -/
def BuildOk (c : Mc) (level : Nat) : Prop :=
  ∀ (A B : List AO) (s : Ms) (seen : List (List Int)), MInv c s level → 1 ≤ s.pend → (seen.length : Int) = c.pl → (∀ l ∈ seen, l.length ≤ level) →
    OkP Try.prog 60 [.ptr (.own (A.length + 1) 0 0 0 0) 0, i64 level, seenV seen] (c.hp A B s) (buildP c A B s level)
/-- What the children made so far add. -/
structure KPost (c : Mc) (s s' : Ms) (level h : Nat) (nx : List Int) (subs : List Nd) (isN : List (Int × Int)) (vsN : List Vw) : Prop where
  ns : s'.ns = s.ns ++ subs
  is : s'.is = s.is ++ isN
  vs : s'.vs = s.vs ++ vsN
  pend : s'.pend = s.pend - nx.length
  lv : ∀ v ∈ vsN, (level : Int) ≤ v.lv
  kds : Kds s.ns.length h nx subs
  rg : rg subs s.is.length = some s'.is.length
  good : ∀ x ∈ subs, x.good c.pl s'.is
  inv : MInv c s' level
theorem KPost.zero {c : Mc} {s : Ms} {level h : Nat} (hi : MInv c s level) : KPost c s s level h [] [] [] [] :=
  ⟨by simp, by simp, by simp, by simp, by simp, Kds.nil _ _, by simp [Proofs.Ytiikfkacbglblaa.rg], by simp, hi⟩
theorem KPost.snoc {c : Mc} {s s1 s2 : Ms} {level h : Nat} {nx : List Int} {subs sub : List Nd} {i1 i2 : List (Int × Int)} {v1 v2 : List Vw} (hk : KPost c s s1 level h nx subs i1 v1) (hp : MPost c s1 s2 level h sub i2 v2) :
    KPost c s s2 level h (nx ++ [(s1.ns.length : Int)]) (subs ++ sub) (i1 ++ i2) (v1 ++ v2) := by
  refine ⟨?_, ?_, ?_, ?_, ?_, ?_, ?_, ?_, hp.inv⟩
  · rw [hp.ns, hk.ns, List.append_assoc]
  · rw [hp.is, hk.is, List.append_assoc]
  · rw [hp.vs, hk.vs, List.append_assoc]
  · rw [hp.pend, hk.pend]; simp; omega
  · intro v hv
    rcases List.mem_append.1 hv with h | h
    · exact hk.lv v h
    · exact hp.lv v h
  · exact hk.kds.snoc hp.wlk (by rw [hk.ns]; simp)
  · rw [rg_app, hk.rg]; exact hp.rg
  · intro x hx
    rcases List.mem_append.1 hx with h | h
    · rw [hp.is]; exact (hk.good x h).app _
    · exact hp.good x h
section
variable {A B : List AO} {c : Mc} {s : Ms}
def nodX (A B : List AO) (ch : Bool) (x0 info : Int) (nx ws : List Int) : AO :=
  ⟨[i64 (if ch = true then 1 else 2), i64 (if ch = true then 0 else x0), i64 (if ch = true then 0 else info), .own (A.length + (B.length + 9)) 0 nx.length 1 nx.length, if ch = true then .own (A.length + (B.length + 10)) 0 ws.length 1 ws.length else .val (.slice none 0 0), .val (.slice none 0 0)], 37, 0, true⟩
def intO (l : List Int) : AO := ⟨ints l, 3, l.length, true⟩
theorem Cl_hp {n : Nat} (hA : Cl n A) (hB : Cl n B) (hn : A.length + 6 ≤ n) : Cl n (c.hp A B s) := by
  unfold Mc.hp
  refine hA.app ?_
  refine Cl.cons (by simp [Mc.D, SV.underL, SV.under]) (Cl.cons (by simp only [Mc.M, SV.underL, SV.under, Bool.and_eq_true, decide_eq_true_eq, Bool.and_true]; refine ⟨?_, ?_, ?_, ?_, ?_, ?_, ?_, ?_, ?_, ?_⟩ <;> first | omega | rfl) (Cl.cons ?_ (Cl.cons ?_ (Cl.cons ?_ (Cl.cons ?_ hB)))))
  · exact rws_under (fun x => by simp [lcN, SV.underL, SV.under]) _
  · exact rws_under (fun x => by simp [Vw.cells, SV.underL, SV.under]) _
  · exact rws_under (cN_under _) _
  · exact rws_under (fun x => by simp [icN, SV.underL, SV.under]) _
def w60 : IC := match l60_0 with
  | .keep _ (.seq _ (.seq (.blk 1 (.seq _ (.seq _ (.seq _ w)))) _)) => w
  | _ => .skip
set_option maxRecDepth 10000 in
theorem call60 {l : List (List Int)} {ch : Bool} {x0 x1 x2 info : Int} {level : Nat} {g : AO} {s' : Ms} {N : Nat} {K : XE → Env → List AO → Prop} (hb : BuildOk c (level + 1)) {nx ws : List Int} {L L2 : List AO} {env : Env} (hl : (l.length : Int) = c.pl) (hll : ∀ x ∈ l, x.length ≤ level + 1) (hi : MInv c s' (level + 1)) (hp : 1 ≤ s'.pend) (hm : level ≤ 1000) (hx : nx.length ≤ 1000) (hns : s'.ns.length ≤ 100000)
    (h0 : env.get 0 = .ptr (.own (A.length + 1) 0 0 0 0) 0) (h1 : env.get 1 = i64 level) (h11 : env.get 11 = .ptr (.own (A.length + (B.length + 8)) 0 0 0 0) 0) (h13 : env.get 13 = .own (A.length + (B.length + (L.length + 11))) 0 l.length 1 l.length)
    (hK : ∀ env' v1 v2 s2 sub isN vsN, MPost c s' s2 (level + 1) (c.lv.length - (level + 1)) sub isN vsN → (∀ t, t < 185 → env'.get t = env.get t) → K .normal env' (c.hp A (B ++ g :: ⟨[i64 x0, i64 x1, i64 x2], 104, 0, true⟩ :: nodX A B ch x0 info (nx ++ [(s'.ns.length : Int)]) ws :: intO (nx ++ [(s'.ns.length : Int)]) :: intO ws :: (L ++ ⟨[], 35, v1, false⟩ :: (L2 ++ [⟨[i64 v2], 3, 0, true⟩]))) s2)) :
    X Try.prog N drawB w60 env (c.hp A (B ++ g :: ⟨[i64 x0, i64 x1, i64 x2], 104, 0, true⟩ :: nodX A B ch x0 info nx ws :: intO nx :: intO ws :: (L ++ nowO l :: L2)) s') K := by
  have w1 : IntKind.i64.wrap ((level : Int) + 1) = ((level + 1 : Nat) : Int) := wrap_succ (by omega)
  simp -implicitDefEqProofs [w60, l60_0, h0, h1, h11, h13, nodX, Mc.hp, w1]
  have hb' := hb A (B ++ g :: ⟨[i64 x0, i64 x1, i64 x2], 104, 0, true⟩ :: nodX A B ch x0 info nx ws :: intO nx :: intO ws :: (L ++ ⟨[], 35, l.length + 1, false⟩ :: L2)) s' l hi hp hl hll
  refine call_goP (OkP.give (A.length + (B.length + (L.length + 11))) 1 (o := nowO l) ?_ rfl (OkP.cast ?_ ?_ hb')) ?_
  · simp only [get_app, get_c2, List.getElem?_cons_succ, get_app0, List.getElem?_cons_zero]
  · simp [nowO, seenV, List.take_of_length_le]
  · simp [set_app, set_app0, set_c2, Mc.hp, nodX, nowO, AO.dead]
  rintro o G' ⟨rfl, s2, sub, isN, vsN, hp2, rfl⟩
  simp -implicitDefEqProofs [w60, l60_0, h0, h1, h11, h13, nodX, Mc.hp, w1]
  refine ⟨by omega, by omega, ⟨rfl, rfl, rfl, by simp [intO]⟩, ?_⟩
  have e : ints (nx ++ [(s'.ns.length : Int)]) = ints nx ++ [i64 s'.ns.length] := by simp [ints]
  have := hK ((194, (SV.own (A.length + (B.length + 8)) 0 0 0 0).ptr 3) :: (193, SV.own (A.length + (B.length + 9)) 0 (nx.length + 1) 1 (nx.length + 1)) :: (192, SV.own (A.length + (B.length + (L.length + (L2.length + 12)))) 0 1 1 0) :: (191, i64 s'.ns.length) :: (190, SV.own (A.length + (B.length + (L.length + 11))) 0 l.length 1 l.length) :: (189, i64 (level + 1)) :: (188, i64 level) ::
    (187, (SV.own (A.length + 1) 0 0 0 0).ptr 0) :: (186, SV.own (A.length + (B.length + 9)) 0 nx.length 1 nx.length) :: (185, (SV.own (A.length + (B.length + 8)) 0 0 0 0).ptr 3) :: env) (l.length + 1) s'.ns.length s2 sub isN vsN hp2 (fun t ht => by
      simp only [Env.get]
      repeat rw [if_neg (by omega)])
  simpa [Mc.hp, nodX, intO, e] using this
set_option maxRecDepth 10000 in
theorem loop60_0 {seen : List (List Int)} {ch : Bool} {x0 x1 x2 info : Int} {level many : Nat} {g : AO} {s1 : Ms} {N : Nat} {K : XE → Env → List AO → Prop} (hc : c.Good) (hb : BuildOk c (level + 1)) (hA : Cl (A.length + (B.length + 6)) A) (hB : Cl (A.length + (B.length + 6)) B) (hg : Cl 0 [g])
    (hs : (seen.length : Int) = c.pl) (hsl : ∀ l ∈ seen, l.length ≤ level) (hlv : level < c.lv.length) (hmy : many ≤ 3) (hx0 : ch = decide (x0 < 0)) (hp1 : (many : Int) ≤ s1.pend) {at' : Nat}
    (hexit : ∀ env L s' nx ws subs isN vsN, nx.length = many → KPost c s1 s' (level + 1) (c.lv.length - (level + 1)) nx subs isN vsN → (ws.length = if ch = true then many else 0) → (∀ w ∈ ws, 1 ≤ w ∧ w ≤ 3) → Cl 0 L →
      env.get 0 = .ptr (.own (A.length + 1) 0 0 0 0) 0 → env.get 7 = i64 at' → env.get 11 = .ptr (.own (A.length + (B.length + 8)) 0 0 0 0) 0 →
      K (.exit 0) env (c.hp A (B ++ g :: ⟨[i64 x0, i64 x1, i64 x2], 104, 0, true⟩ :: nodX A B ch x0 info nx ws :: intO nx :: intO ws :: L) s')) :
    ∀ (n : Nat) (env : Env) (L : List AO) (s' : Ms) (nx ws : List Int) (subs : List Nd) (isN : List (Int × Int)) (vsN : List Vw), nx.length + n = many → KPost c s1 s' (level + 1) (c.lv.length - (level + 1)) nx subs isN vsN →
      (ws.length = if ch = true then nx.length else 0) → (∀ w ∈ ws, 1 ≤ w ∧ w ≤ 3) → Cl 0 L →
      env.get 0 = .ptr (.own (A.length + 1) 0 0 0 0) 0 → env.get 1 = i64 level → env.get 2 = seenV seen → env.get 7 = i64 at' → env.get 8 = .ptr (.own (A.length + (B.length + 7)) 0 0 0 0) 0 → env.get 9 = i64 many → env.get 11 = .ptr (.own (A.length + (B.length + 8)) 0 0 0 0) 0 → env.get 12 = i64 nx.length →
      LI Try.prog N drawB l60_0 env (c.hp A (B ++ g :: ⟨[i64 x0, i64 x1, i64 x2], 104, 0, true⟩ :: nodX A B ch x0 info nx ws :: intO nx :: intO ws :: L) s') K := by
  intro n
  induction n with
  | zero =>
    intro env L s' nx ws subs isN vsN hn hk hws hw hL h0 h1 h2 h7 h8 h9 h11 h12
    refine li_go hm' l60_0.eq_1 ?_
    simp -implicitDefEqProofs [h0, h1, h2, h7, h8, h9, h11, h12, show ¬ nx.length < many by omega]
    refine hexit _ L s' nx ws subs isN vsN (by omega) hk (by rw [hws]; split <;> omega) hw hL ?_ ?_ ?_ <;> simp [h0, h7, h11]
  | succ n ih =>
    intro env L s' nx ws subs isN vsN hn hk hws hw hL h0 h1 h2 h7 h8 h9 h11 h12
    refine li_go hm' l60_0.eq_1 ?_
    have hlt : nx.length < many := by omega
    have w1 : IntKind.i64.wrap ((nx.length : Int) + 1) = ((nx.length + 1 : Nat) : Int) := wrap_succ (by omega)
    have hps := hk.pend
    have hil := hk.inv.ml
    have hcm := hc.m
    have hcl' := hc.lv
    have hcp := hc.p2
    -- what comes behind the inner loop, for both kinds of nodes
    have key : ∀ (ws' : List Int) (s2 : Ms) (L2 : List AO) (env : Env), KPost c s1 s2 (level + 1) (c.lv.length - (level + 1)) nx subs isN vsN → (ws'.length = if ch = true then nx.length + 1 else 0) → (∀ w ∈ ws', 1 ≤ w ∧ w ≤ 3) → Cl 0 L2 →
        env.get 0 = .ptr (.own (A.length + 1) 0 0 0 0) 0 → env.get 1 = i64 level → env.get 2 = seenV seen → env.get 7 = i64 at' → env.get 8 = .ptr (.own (A.length + (B.length + 7)) 0 0 0 0) 0 → env.get 9 = i64 many → env.get 11 = .ptr (.own (A.length + (B.length + 8)) 0 0 0 0) 0 → env.get 12 = i64 nx.length →
        env.get 13 = .own (A.length + (B.length + (L2.length + 11))) 0 0 1 0 → env.get 14 = i64 0 →
        ∀ K' K2 : XE → Env → List AO → Prop, (∀ env H, X Try.prog N drawB w60 env H K2 → K' (.exit 2) env H) → (∀ (e : Env) (H : List AO), e.get 12 = i64 nx.length → LI Try.prog N drawB l60_0 ((12, i64 ((nx.length + 1 : Nat) : Int)) :: (135, i64 ((nx.length + 1 : Nat) : Int)) :: (134, i64 nx.length) :: e) H K → K2 .normal e H) →
        LI Try.prog N drawB l60_1 env (c.hp A (B ++ g :: ⟨[i64 x0, i64 x1, i64 x2], 104, 0, true⟩ :: nodX A B ch x0 info nx ws' :: intO nx :: intO ws' :: (L2 ++ [nowO []])) s2) K' := by
      intro ws' s2 L2 env hk2 hws2 hw2 hL2 g0 g1 g2 g7 g8 g9 g11 g12 g13 g14 K' K2 hK' hK2
      have hps2 := hk2.pend
      have hil2 := hk2.inv.ml
      have hm : A.length + (B.length + 6) ≤ A.length + ((B ++ g :: ⟨[i64 x0, i64 x1, i64 x2], 104, 0, true⟩ :: nodX A B ch x0 info nx ws' :: intO nx :: intO ws' :: L2).length + 6) := by simp
      have hclo : closed (c.hp A (B ++ g :: ⟨[i64 x0, i64 x1, i64 x2], 104, 0, true⟩ :: nodX A B ch x0 info nx ws' :: intO nx :: intO ws' :: L2) s2) := by
        rw [closed_iff, hp_len]
        refine Cl_hp (hA.mono hm) ((hB.mono hm).app ?_) (by omega)
        refine Cl.cons ((SV.underL_iff _ _).2 fun y hy => SV.under_mono (Nat.zero_le _) y (hg g (by simp) y hy)) (Cl.cons (by simp [SV.underL, SV.under]) (Cl.cons ?_ (Cl.cons (underL_ints _ _) (Cl.cons (underL_ints _ _) (hL2.mono (Nat.zero_le _))))))
        cases ch <;> simp [nodX, SV.underL, SV.under] <;> omega
      refine LI.cong (H' := c.hp A ((B ++ g :: ⟨[i64 x0, i64 x1, i64 x2], 104, 0, true⟩ :: nodX A B ch x0 info nx ws' :: intO nx :: intO ws' :: L2) ++ nowO [] :: []) s2) (by simp) ?_
      refine loop60_1 (seen := seen) (m := level) (jp := B.length + 1) (x0 := x0) (x1 := x1) (x2 := x2) (i := nx.length) (y1 := level) (y7 := at') (y9 := many) (y11 := A.length + (B.length + 8)) hclo (by omega) hsl (by omega) (by simp) (fun env L l hL hl hl2 k0 k1 k2 k7 k8 k9 k11 k12 k13 => ?_) seen.length env [] [] (by simp) (Cl.nil _) (by simp) g0 g1 g2 g7 (by rw [g8]) g9 g11 g12 (by rw [g13]; simp; omega) g14
      refine hK' _ _ ?_
      have e : c.hp A ((B ++ g :: ⟨[i64 x0, i64 x1, i64 x2], 104, 0, true⟩ :: nodX A B ch x0 info nx ws' :: intO nx :: intO ws' :: L2) ++ nowO l :: L) s2 = c.hp A (B ++ g :: ⟨[i64 x0, i64 x1, i64 x2], 104, 0, true⟩ :: nodX A B ch x0 info nx ws' :: intO nx :: intO ws' :: (L2 ++ nowO l :: L)) s2 := by simp
      rw [e]
      refine call60 hb (l := l) (L := L2) (L2 := L) (by rw [hl]; exact hs) hl2 hk2.inv (by omega) (by omega) (by omega) (by omega) k0 k1 k11 (by rw [k13, hl]; simp; omega) (fun env' v1 v2 s3 sub isN' vsN' hpo he => ?_)
      refine hK2 _ _ (by rw [he 12 (by omega)]; exact k12) ?_
      refine ih _ _ s3 (nx ++ [(s2.ns.length : Int)]) ws' _ _ _ (by simp; omega) (hk2.snoc hpo) (by simpa using hws2) hw2 (hL2.app (Cl.cons rfl (hL.app (Cl.cons rfl (Cl.nil _))))) ?_ ?_ ?_ ?_ ?_ ?_ ?_ ?_
      all_goals simp [he, k0, k1, k2, k7, k8, k9, k11]
    cases ch with
    | true =>
      have hneg : x0 < 0 := by simpa using hx0.symm
      simp -implicitDefEqProofs [h0, h1, h2, h7, h8, h9, h11, h12, hlt, hneg, nodX, Mc.hp, Mc.M]
      have h59 := ok59m (A := A) (c := c) (B := B ++ g :: ⟨[i64 x0, i64 x1, i64 x2], 104, 0, true⟩ :: nodX A B true x0 info nx ws :: intO nx :: intO ws :: L) (n := 3) (s := s') hc.l hk.inv.a0 (by omega)
      refine call_goP (by simpa [Mc.hp, Mc.M, nodX] using h59) ?_
      rintro o G' ⟨v, a, rfl, hv1, hv2, hv3, rfl⟩
      have w2 : IntKind.i64.wrap (1 + v) = 1 + v := wrap_id (by omega) (by omega)
      simp -implicitDefEqProofs [h0, h1, h2, h7, h8, h9, h11, h12, hlt, hneg, nodX, Mc.hp, Mc.M, w2, intO]
      simp at hws
      refine ⟨by omega, by omega, ?_⟩
      have hk3 : KPost c s1 { s' with at' := a } (level + 1) (c.lv.length - (level + 1)) nx subs isN vsN := ⟨hk.ns, hk.is, hk.vs, hk.pend, hk.lv, hk.kds, hk.rg, hk.good, ⟨hv1, hk.inv.vl, hk.inv.vi, hk.inv.vsn, hk.inv.used, hk.inv.isr, hk.inv.nsr, hk.inv.il, hk.inv.ml⟩⟩
      refine LI.cong (H' := c.hp A (B ++ g :: ⟨[i64 x0, i64 x1, i64 x2], 104, 0, true⟩ :: nodX A B true x0 info nx (ws ++ [1 + v]) :: intO nx :: intO (ws ++ [1 + v]) :: ((L ++ [⟨[i64 (1 + v)], 3, 0, true⟩]) ++ [nowO []])) { s' with at' := a }) (by simp [Mc.hp, Mc.M, nodX, nowO, intO, show ints (ws ++ [1 + v]) = ints ws ++ [i64 (1 + v)] by simp [ints]])
        (key (ws ++ [1 + v]) _ _ _ hk3 (by simp; omega) ?_ (hL.app (Cl.cons rfl (Cl.nil _))) ?_ ?_ ?_ ?_ ?_ ?_ ?_ ?_ ?_ ?_ _ _ (fun env H hX => hX) ?_)
      · intro w hw'
        rcases List.mem_append.1 hw' with h | h
        · exact hw w h
        · simp at h; omega
      all_goals try (simp [h0, h1, h2, h7, h8, h9, h11, h12]; done)
      intro e H g12 hLI
      simp -implicitDefEqProofs [g12, w1]
      exact hLI
    | false =>
      have hneg : ¬ x0 < 0 := by simpa using hx0.symm
      simp -implicitDefEqProofs [h0, h1, h2, h7, h8, h9, h11, h12, hlt, hneg, nodX, Mc.hp, Mc.M]
      refine LI.cong (H' := c.hp A (B ++ g :: ⟨[i64 x0, i64 x1, i64 x2], 104, 0, true⟩ :: nodX A B false x0 info nx ws :: intO nx :: intO ws :: (L ++ [nowO []])) s') (by simp [Mc.hp, Mc.M, nodX, nowO]) (key ws s' L _ hk hws hw hL ?_ ?_ ?_ ?_ ?_ ?_ ?_ ?_ ?_ ?_ _ _ (fun env H hX => hX) ?_)
      all_goals try (simp [h0, h1, h2, h7, h8, h9, h11, h12]; done)
      intro e H g12 hLI
      simp -implicitDefEqProofs [g12, w1]
      exact hLI
end
end Go.Proofs.Ytiikfkacbglblaa
/- G8 -/
namespace Go.Proofs.Ytiikfkacbglblaa
open Go.Ab
def phN : Nd := ⟨0, 0, 0, [], [], []⟩
/-- The state behind the choice of a set. -/
structure MMid (c : Mc) (s s2 : Ms) (level : Nat) (x0 : Int) (info many : Nat) : Prop where
  ns : s2.ns = s.ns ++ [phN]
  pend : s2.pend = s.pend - 1
  a0 : 0 ≤ s2.at'
  m3 : 1 ≤ many ∧ many ≤ 3
  set : (x0 < 0 ∧ info = 0 ∧ s2.is = s.is ∧ s2.vs = s.vs) ∨
    (0 ≤ x0 ∧ s2.is[info]? = some (x0, (many : Int)) ∧ ((s2.is = s.is ∧ s2.vs = s.vs ∧ ∃ h : info < s.vs.length, s.vs[info].lv = level) ∨
      (x0 < c.pl ∧ info = s.is.length ∧ s2.is = s.is ++ [(x0, (many : Int))] ∧ ∃ sn : List Int, sn.length ≤ 100 ∧ s2.vs = s.vs ++ [⟨x0, level, sn, info⟩])))
section
variable {c : Mc} {s s2 s3 : Ms} {level info many : Nat} {x0 : Int}
theorem set_last {α : Type} (l : List α) (p x : α) (r : List α) : (l ++ p :: r).set l.length x = l ++ x :: r := by
  rw [List.set_append_right _ _ (Nat.le_refl _)]; simp
/-- An end that has been made. -/
theorem post_end {ps : List Int} {a : Int} {h : Nat} (hc : c.Good) (hi : MInv c s level) (hp1 : 1 ≤ s.pend) (hns : s3.ns = s.ns ++ [phN]) (hpe : s3.pend = s.pend - 1) (his : s3.is = s.is) (hvs : s3.vs = s.vs) (hps : (ps.length : Int) = c.pl) (hw : ∀ w ∈ ps, -3 ≤ w ∧ w ≤ 3) (ha : 0 ≤ a) :
    MPost c s (s3.endN s.ns.length ps a) level h [⟨3, 0, 0, [], [], ps⟩] [] [] := by
  have e : (s3.endN s.ns.length ps a).ns = s.ns ++ [⟨3, 0, 0, [], [], ps⟩] := by simp only [Ms.endN, hns]; exact set_last _ _ _ _
  have ei : (s3.endN s.ns.length ps a).is = s.is := his
  have ev : (s3.endN s.ns.length ps a).vs = s.vs := hvs
  refine ⟨e, by rw [ei]; simp, by rw [ev]; simp, hpe, by simp, Wlk.leaf _ _ rfl, by simp [rg, ei], ?_, ⟨ha, ?_, ?_, ?_, ?_, ?_, ?_, ?_, ?_⟩⟩
  · intro x hx
    simp at hx; subst hx
    exact .inr (.inr ⟨rfl, rfl, rfl, rfl, rfl, hps, fun w h => by have := hw w h; omega⟩)
  · rw [ei, ev]; exact hi.vl
  · intro j hj
    have hj' : j < s.vs.length := by rw [← ev]; exact hj
    have := hi.vi j hj'
    simp only [ei, ev]; exact this
  · rw [ev]; exact hi.vsn
  · intro j hj hl
    have hj' : j < s.vs.length := by rw [← ev]; exact hj
    simp only [ev] at hl
    obtain ⟨x, h1, h2⟩ := hi.used j hj' hl
    exact ⟨x, by rw [e]; exact List.mem_append_left _ h1, h2⟩
  · rw [ei]; exact hi.isr
  · intro x hx hk
    rw [e] at hx
    rcases List.mem_append.1 hx with h | h
    · rw [ei]; exact hi.nsr x h hk
    · simp at h; subst h; simp at hk
  · rw [ei, e]; have := hi.il; simp; omega
  · rw [e]; have := hi.ml; have : (s3.endN s.ns.length ps a).pend = s.pend - 1 := hpe; simp; omega
theorem MMid.set' (hm : MMid c s s2 level x0 info many) (hi : MInv c s level) : ∃ i1 v1, s2.is = s.is ++ i1 ∧ s2.vs = s.vs ++ v1 ∧ (∀ v ∈ v1, v.lv = level ∧ v.sn.length ≤ 100 ∧ i1 = [(v.pl, (many : Int))] ∧ v.inf = s.is.length ∧ 0 ≤ v.pl ∧ v.pl < c.pl) ∧ i1.length = v1.length ∧ i1.length ≤ 1 := by
  rcases hm.set with ⟨_, _, h1, h2⟩ | ⟨h0, _, ⟨h1, h2, _⟩ | ⟨h3, h4, h1, sn, h5, h2⟩⟩
  · exact ⟨[], [], by simp [h1], by simp [h2], by simp, rfl, by simp⟩
  · exact ⟨[], [], by simp [h1], by simp [h2], by simp, rfl, by simp⟩
  · exact ⟨_, _, h1, h2, by simp [h5, h0, h3, h4], rfl, by simp⟩
/-- What holds while the children are made. -/
theorem MMid.inv (hm : MMid c s s2 level x0 info many) (hc : c.Good) (hi : MInv c s level) (hp1 : 1 ≤ s.pend) (hle : (s.ns.length : Int) + 1 + s2.pend + many ≤ c.most) : MInv c { s2 with pend := s2.pend + many } (level + 1) := by
  obtain ⟨i1, v1, e1, e2, h1, h2, h3⟩ := hm.set' hi
  have hvl := hi.vl
  refine ⟨hm.a0, ?_, ?_, ?_, ?_, ?_, ?_, ?_, ?_⟩
  · simp only [e1, e2, List.length_append]; omega
  · intro j hj
    simp only [e2, List.length_append] at hj
    simp only [e1, e2]
    by_cases hj' : j < s.vs.length
    · rw [List.getElem_append_left hj', List.getElem_append_left (by omega)]
      exact hi.vi j hj'
    · have hj2 : j - s.vs.length < v1.length := by omega
      rw [List.getElem_append_right (by omega), List.getElem_append_right (by omega)]
      obtain ⟨k1, k2, k3, k4, k5, k6⟩ := h1 _ (List.getElem_mem hj2)
      have : j = s.vs.length := by omega
      refine ⟨by rw [k4]; omega, ?_⟩
      simp only [k3]; simp
  · intro v hv
    simp only [e2] at hv
    rcases List.mem_append.1 hv with h | h
    · exact hi.vsn v h
    · exact (h1 v h).2.1
  · intro j hj hl
    simp only [e2, List.length_append] at hj hl
    by_cases hj' : j < s.vs.length
    · rw [List.getElem_append_left hj'] at hl
      obtain ⟨x, k1, k2⟩ := hi.used j hj' (by omega)
      exact ⟨x, by simp only [hm.ns]; exact List.mem_append_left _ k1, k2⟩
    · rw [List.getElem_append_right (by omega)] at hl
      have := (h1 _ (List.getElem_mem (show j - s.vs.length < v1.length by omega))).1
      omega
  · intro q hq
    simp only [e1] at hq
    rcases List.mem_append.1 hq with h | h
    · exact hi.isr q h
    · cases hv : v1 with
      | nil => rw [hv] at h2; simp at h2; rw [h2] at h; simp at h
      | cons v r =>
        obtain ⟨k1, k2, k3, k4, k5, k6⟩ := h1 v (by rw [hv]; simp)
        rw [k3] at h; simp at h; subst h
        have := hm.m3
        exact ⟨k5, k6, by omega, by omega⟩
  · intro x hx hk
    simp only [hm.ns] at hx
    rcases List.mem_append.1 hx with h | h
    · have := hi.nsr x h hk
      simp only [e1, List.length_append]; omega
    · simp [phN] at h; subst h; simp at hk
  · have := hi.il
    simp only [e1, hm.ns, List.length_append, List.length_singleton]; omega
  · simp only [hm.ns, List.length_append, List.length_singleton]; have := hm.pend; omega
/-- The node itself, behind its children. -/
def nodeN (ch : Bool) (x0 : Int) (info : Nat) (nx ws : List Int) : Nd := if ch = true then ⟨1, 0, 0, nx, ws, []⟩ else ⟨2, x0, info, nx, [], []⟩
theorem post_node {s4 : Ms} {ch : Bool} {nx ws : List Int} {subs : List Nd} {isN : List (Int × Int)} {vsN : List Vw} {h' : Nat} (hc : c.Good) (hi : MInv c s level) (hp1 : 1 ≤ s.pend) (hm : MMid c s s2 level x0 info many) (hch : ch = decide (x0 < 0))
    (hk : KPost c { s2 with pend := s2.pend + many } s4 (level + 1) h' nx subs isN vsN) (hnx : nx.length = many) (hws : ws.length = if ch = true then many else 0) (hw : ∀ w ∈ ws, 1 ≤ w ∧ w ≤ 3) :
    ∃ isM vsM, MPost c s { s4 with ns := s4.ns.set s.ns.length (nodeN ch x0 info nx ws) } level (h' + 1) (nodeN ch x0 info nx ws :: subs) isM vsM := by
  obtain ⟨i1, v1, e1, e2, h1, h2, h3⟩ := hm.set' hi
  have hvl := hi.vl
  have m3 := hm.m3
  have hns4 : s4.ns = s.ns ++ phN :: subs := by rw [hk.ns]; simp [hm.ns]
  have his4 : s4.is = s.is ++ (i1 ++ isN) := by rw [hk.is]; simp [e1]
  have hvs4 : s4.vs = s.vs ++ (v1 ++ vsN) := by rw [hk.vs]; simp [e2]
  have e : s4.ns.set s.ns.length (nodeN ch x0 info nx ws) = s.ns ++ nodeN ch x0 info nx ws :: subs := by rw [hns4]; exact set_last _ _ _ _
  have hkn : (nodeN ch x0 info nx ws).nx = nx := by unfold nodeN; split <;> rfl
  have hkd : Kds (s.ns.length + 1) h' nx subs := by have := hk.kds; simp only [hm.ns, List.length_append, List.length_singleton] at this; exact this
  have hinfo : ch = false → s4.is[info]? = some (x0, (many : Int)) ∧ 0 ≤ x0 ∧ x0 < c.pl := by
    intro hf
    have hx : ¬ x0 < 0 := by rw [hf] at hch; simpa using hch.symm
    have key : s2.is[info]? = some (x0, (many : Int)) := by
      rcases hm.set with ⟨h, _⟩ | ⟨_, h, _⟩
      · exact absurd h hx
      · exact h
    refine ⟨by rw [hk.is, List.getElem?_append_left (getElem?_lt key)]; exact key, by omega, ?_⟩
    have := hk.inv.isr (x0, (many : Int)) (by rw [hk.is]; exact List.mem_append_left _ (List.mem_of_getElem? key))
    exact this.2.1
  refine ⟨i1 ++ isN, v1 ++ vsN, e, his4, hvs4, ?_, ?_, Wlk.node (by rw [hkn]; exact hkd), ?_, ?_, ?_⟩
  · show s4.pend = _
    rw [hk.pend]; simp only [hm.pend, hnx]; omega
  · intro v hv
    rcases List.mem_append.1 hv with h | h
    · rw [(h1 v h).1]; exact Int.le_refl _
    · have := hk.lv v h; omega
  · have hr := hk.rg
    simp only [e1] at hr
    cases ch with
    | true =>
      have hx : x0 < 0 := by simpa using hch.symm
      have hi1 : i1 = [] := by
        rcases hm.set with ⟨_, _, h, _⟩ | ⟨h, _⟩
        · rw [e1] at h; simpa using h
        · omega
      rw [hi1] at hr; simp at hr
      simp [rg, nodeN]; exact hr
    | false =>
      have hx : ¬ x0 < 0 := by simpa using hch.symm
      rcases hm.set with ⟨h, _⟩ | ⟨_, _, ⟨h4, _, hlt, _⟩ | ⟨_, h4, h5, _⟩⟩
      · omega
      · have hi1 : i1 = [] := by rw [e1] at h4; simpa using h4
        rw [hi1] at hr; simp at hr
        rw [show nodeN false x0 info nx ws = ⟨2, x0, info, nx, [], []⟩ from rfl]
        simp only [rg]
        rw [if_pos trivial, if_neg (by omega), if_pos (by omega)]; exact hr
      · have hi1 : i1 = [(x0, (many : Int))] := by rw [e1] at h5; simpa using h5
        rw [hi1] at hr; simp at hr
        rw [show nodeN false x0 info nx ws = ⟨2, x0, info, nx, [], []⟩ from rfl]
        simp only [rg]
        rw [if_pos trivial, if_pos (by omega)]; exact hr
  · intro x hx
    rcases List.mem_cons.1 hx with rfl | hx
    · cases ch with
      | true => exact .inl ⟨rfl, rfl, rfl, rfl, by simp [nodeN]; omega, by simp [nodeN]; omega, by simp at hws; simp [nodeN]; omega, fun w h => by have := hw w h; omega⟩
      | false =>
        obtain ⟨k1, k2, k3⟩ := hinfo rfl
        exact .inr (.inl ⟨rfl, rfl, rfl, by simp [nodeN]; omega, by simp [nodeN]; omega, k2, k3, by simp [nodeN], by simp [nodeN, hnx]; exact k1⟩)
    · exact hk.good x hx
  · have hin : ∀ y ∈ s4.ns, y.k = 2 → y ∈ s4.ns.set s.ns.length (nodeN ch x0 info nx ws) := by
      intro y hy hy2
      rw [hns4] at hy; rw [e]
      rcases List.mem_append.1 hy with h | h
      · exact List.mem_append_left _ h
      · rcases List.mem_cons.1 h with rfl | h
        · simp [phN] at hy2
        · exact List.mem_append_right _ (List.mem_cons_of_mem _ h)
    refine ⟨hk.inv.a0, hk.inv.vl, hk.inv.vi, hk.inv.vsn, ?_, hk.inv.isr, ?_, ?_, ?_⟩
    · intro j hj hl
      by_cases hj2 : ((level + 1 : Nat) : Int) ≤ s4.vs[j].lv
      · obtain ⟨x, k1, k2, k3⟩ := hk.inv.used j hj hj2
        exact ⟨x, hin x k1 k2, k2, k3⟩
      · have hlv : s4.vs[j].lv = level := by show s4.vs[j].lv = _; have : (level : Int) ≤ s4.vs[j].lv := hl; omega
        by_cases hj3 : j < s.vs.length
        · have ej : s4.vs[j] = s.vs[j] := by simp only [hvs4]; rw [List.getElem_append_left hj3]
          obtain ⟨x, k1, k2, k3⟩ := hi.used j hj3 (by rw [← ej, hlv]; exact Int.le_refl _)
          exact ⟨x, by show x ∈ s4.ns.set _ _; rw [e]; exact List.mem_append_left _ k1, k2, k3⟩
        · by_cases hj4 : j - s.vs.length < v1.length
          · have hv1 : v1.length = 1 := by omega
            rcases hm.set with ⟨_, _, _, h⟩ | ⟨hx0, _, ⟨_, h, _⟩ | ⟨_, h4, _, sn, _, h⟩⟩
            · rw [e2] at h; simp at h; rw [h] at hv1; simp at hv1
            · rw [e2] at h; simp at h; rw [h] at hv1; simp at hv1
            · have hcf : ch = false := by rw [hch]; simpa using hx0
              refine ⟨nodeN ch x0 info nx ws, by show _ ∈ s4.ns.set _ _; rw [e]; simp, by rw [hcf]; rfl, ?_⟩
              rw [hcf]; show (info : Int) = j; omega
          · exfalso
            have hj5 : j - s.vs.length - v1.length < vsN.length := by
              have : j < s4.vs.length := hj
              rw [hvs4] at this; simp at this; omega
            have ej : s4.vs[j] = vsN[j - s.vs.length - v1.length] := by
              simp only [hvs4]; rw [List.getElem_append_right (by omega), List.getElem_append_right (by omega)]
            have := hk.lv _ (List.getElem_mem hj5)
            rw [← ej] at this; omega
    · intro x hx hx2
      have hx' : x ∈ s.ns ++ nodeN ch x0 info nx ws :: subs := by rw [← e]; exact hx
      rcases List.mem_append.1 hx' with h | h
      · exact hk.inv.nsr x (by rw [hns4]; exact List.mem_append_left _ h) hx2
      · rcases List.mem_cons.1 h with rfl | h
        · cases hcc : ch with
          | true => rw [hcc] at hx2; simp [nodeN] at hx2
          | false =>
            have := getElem?_lt (hinfo hcc).1
            show 0 ≤ (info : Int) ∧ (info : Int) < s4.is.length
            omega
        · exact hk.inv.nsr x (by rw [hns4]; exact List.mem_append_right _ (List.mem_cons_of_mem _ h)) hx2
    · show s4.is.length ≤ (s4.ns.set _ _).length
      rw [List.length_set]; exact hk.inv.il
    · show ((s4.ns.set _ _).length : Int) + s4.pend ≤ _
      rw [List.length_set]; exact hk.inv.ml
end
end Go.Proofs.Ytiikfkacbglblaa
/- G9 -/
namespace Go.Proofs.Ytiikfkacbglblaa
open Go.Ab
def IC.nth : Nat → IC → IC
  | 0, .seq a _ => a
  | n + 1, .seq _ b => IC.nth n b
  | _, i => i
def IC.tl : Nat → IC → IC
  | n + 1, .seq _ b => IC.tl n b
  | _, i => i
def t60 : IC := IC.tl 8 i60
theorem h60 : i60 = .seq (IC.nth 0 i60) (.seq (IC.nth 1 i60) (.seq (IC.nth 2 i60) (.seq (IC.nth 3 i60) (.seq (IC.nth 4 i60) (.seq (IC.nth 5 i60) (.seq (IC.nth 6 i60) (.seq (IC.nth 7 i60) t60))))))) := rfl
section
variable {A B : List AO} {c : Mc} {s s2 : Ms} {level info many : Nat} {x0 x1 x2 : Int} {seen : List (List Int)}
set_option maxRecDepth 10000 in
theorem tail60 {env : Env} {g : AO} {N : Nat} (hc : c.Good) (hi : MInv c s level) (hp1 : 1 ≤ s.pend) (hm : MMid c s s2 level x0 info many) (hb : BuildOk c (level + 1)) (hcl : closed (c.hp A B s)) (hg : Cl 0 [g]) (hlv : level < c.lv.length)
    (hs : (seen.length : Int) = c.pl) (hsl : ∀ l ∈ seen, l.length ≤ level) (h0 : env.get 0 = .ptr (.own (A.length + 1) 0 0 0 0) 0) (h1 : env.get 1 = i64 level) (h2 : env.get 2 = seenV seen) (h7 : env.get 7 = i64 s.ns.length) (h8 : env.get 8 = .ptr (.own (A.length + (B.length + 7)) 0 0 0 0) 0)
    (h9 : env.get 9 = i64 many) (h10 : env.get 10 = i64 info) :
    X Try.prog N drawB t60 env (c.hp A (B ++ [g, ⟨[i64 x0, i64 x1, i64 x2], 104, 0, true⟩]) s2) (FinP (A.length + (B.length + 6)) r60 (buildP c A B s level)) := by
  have hcm := hc.m
  have hml := hi.ml
  have m3 := hm.m3
  have hpe := hm.pend
  have hcp := hc.p2
  have w1 : IntKind.i64.wrap ((s.ns.length : Int) + 1) = s.ns.length + 1 := wrap_id (by omega) (by omega)
  have w2 : IntKind.i64.wrap ((s.ns.length : Int) + 1 + s2.pend) = s.ns.length + 1 + s2.pend := wrap_id (by omega) (by omega)
  have w3 : IntKind.i64.wrap ((s.ns.length : Int) + 1 + s2.pend + many) = s.ns.length + 1 + s2.pend + many := wrap_id (by omega) (by omega)
  have w4 : IntKind.i64.wrap (s2.pend + many) = s2.pend + many := wrap_id (by omega) (by omega)
  by_cases hgt : c.most < (s.ns.length : Int) + 1 + s2.pend + many
  · simp -implicitDefEqProofs [t60, IC.tl, i60, r60, h0, h1, h2, h7, h8, h9, h10, Mc.hp, Mc.M, w1, w2, w3, w4, hgt]
    obtain ⟨i1, v1, e1, e2, hv1, hv2, hv3⟩ := hm.set' hi
    have hvl := hi.vl
    have hil := hi.il
    have hn2 : s2.ns.length = s.ns.length + 1 := by simp [hm.ns]
    have hd := ok75 (A := A) (B := B ++ [g, ⟨[i64 x0, i64 x1, i64 x2], 104, 0, true⟩]) (c := c) (s := s2) (info := info) (pl := x0) (by omega) (by rw [e1]; simp; omega) (fun h => by
      rcases hm.set with ⟨h', _⟩ | ⟨_, h', _⟩
      · omega
      · have := getElem?_lt h'; omega) (by rw [e1, e2]; simp; omega)
    refine call_goP hd ?_
    rintro o G' ⟨rfl, hcase⟩
    obtain ⟨s3, rfl, k1, k2, k3, k4, k5⟩ : ∃ s3, G' = c.hp A (B ++ [g, ⟨[i64 x0, i64 x1, i64 x2], 104, 0, true⟩]) s3 ∧ s3.ns = s.ns ++ [phN] ∧ s3.pend = s.pend - 1 ∧ s3.is = s.is ∧ s3.vs = s.vs ∧ 0 ≤ s3.at' := by
      rcases hcase with ⟨hcond, rfl⟩ | ⟨hx, hcond, hno, rfl⟩
      · refine ⟨s2, rfl, hm.ns, hm.pend, ?_, ?_, hm.a0⟩ <;> rcases hm.set with ⟨_, _, h, h'⟩ | ⟨hx, _, ⟨h, h', _⟩ | ⟨_, h4, h, sn, _, h'⟩⟩
        all_goals first
          | exact h
          | exact h'
          | skip
        all_goals
          exfalso
          rcases hcond with hh | hh | ⟨x, hx1, hx2, hx3⟩
          · omega
          · rw [h] at hh; simp at hh; omega
          · rw [hm.ns] at hx1
            rcases List.mem_append.1 hx1 with hx1 | hx1
            · have := hi.nsr x hx1 hx2; omega
            · simp [phN] at hx1; subst hx1; simp at hx2
      · refine ⟨s2.cut, rfl, hm.ns, hm.pend, ?_, ?_, hm.a0⟩ <;> rcases hm.set with ⟨hx', _⟩ | ⟨_, h6, ⟨h, h', hlt, hlv'⟩ | ⟨_, h4, h, sn, _, h'⟩⟩
        · omega
        · exfalso
          obtain ⟨x, hx1, hx2, hx3⟩ := hi.used info hlt (by rw [hlv']; exact Int.le_refl _)
          exact hno x (by rw [hm.ns]; exact List.mem_append_left _ hx1) ⟨hx2, hx3⟩
        · simp [Ms.cut, h]
        · omega
        · exfalso
          obtain ⟨x, hx1, hx2, hx3⟩ := hi.used info hlt (by rw [hlv']; exact Int.le_refl _)
          exact hno x (by rw [hm.ns]; exact List.mem_append_left _ hx1) ⟨hx2, hx3⟩
        · simp [Ms.cut, h']
    simp -implicitDefEqProofs [h0, h1, h2, h7, h8, h9, h10]
    refine call_goP (ok73 (k := s.ns.length) hc.l k5 hc.p1 hc.p2 (by rw [k1]; simp) (by rw [k1]; simp; omega)) ?_
    rintro o G' ⟨rfl, ps, a, p1, p2, p3, rfl⟩
    simp -implicitDefEqProofs [h0, h1, h2, h7, h8, h9, h10]
    exact ⟨_, _, ⟨rfl, _, _, _, _, post_end hc hi hp1 k1 k2 k3 k4 p1 p2 p3, rfl⟩, by rw [← hp_len]; exact hp_fin hcl rfl (fz_i64 _ _ _ _ _)⟩
  · simp -implicitDefEqProofs [t60, IC.tl, i60, r60, h0, h1, h2, h7, h8, h9, h10, Mc.hp, Mc.M, w1, w2, w3, w4, hgt]
    have hfin : ∀ (ch : Bool), ch = decide (x0 < 0) → ∀ (env : Env) (L : List AO) (s' : Ms) (nx ws : List Int) (subs : List Nd) (isN : List (Int × Int)) (vsN : List Vw), nx.length = many → KPost c { s2 with pend := s2.pend + many } s' (level + 1) (c.lv.length - (level + 1)) nx subs isN vsN → (ws.length = if ch = true then many else 0) → (∀ w ∈ ws, 1 ≤ w ∧ w ≤ 3) → Cl 0 L →
      env.get 0 = .ptr (.own (A.length + 1) 0 0 0 0) 0 → env.get 7 = i64 s.ns.length → env.get 11 = .ptr (.own (A.length + (B.length + 8)) 0 0 0 0) 0 →
      X Try.prog N drawB (IC.tl 5 t60) env (c.hp A (B ++ g :: ⟨[i64 x0, i64 x1, i64 x2], 104, 0, true⟩ :: nodX A B ch x0 info nx ws :: intO nx :: intO ws :: L) s') (FinP (A.length + (B.length + 6)) r60 (buildP c A B s level)) := by
      intro ch hch env L s' nx ws subs isN vsN hnx hk hws hw hL g0 g7 g11
      obtain ⟨isM, vsM, hpo⟩ := post_node hc hi hp1 hm hch hk hnx hws hw
      have hlt : s.ns.length < s'.ns.length := by rw [hk.ns]; simp [hm.ns]
      have hle := rws_le Nd.lenN hlt
      simp -implicitDefEqProofs [t60, IC.tl, i60, r60, g0, g7, g11, Mc.hp, Mc.M, nodX]
      refine ⟨hlt, ⟨by cases ch <;> rfl, rfl⟩, by simpa [Mc.N] using hle, _, _, ⟨rfl, _, _, _, _, (by rw [show c.lv.length - level = c.lv.length - (level + 1) + 1 by omega]; exact hpo), rfl⟩, ?_⟩
      have f1 := fz_own (n := A.length + (B.length + 6)) (ks := []) (L := g :: ⟨[i64 x0, i64 x1, i64 x2], 104, 0, true⟩ :: nodX A B ch x0 info nx ws :: intO nx :: intO ws :: L) (d := 1) 3 0 nx.length 1 nx.length
      have f2 := fz_own (n := A.length + (B.length + 6)) (ks := []) (L := g :: ⟨[i64 x0, i64 x1, i64 x2], 104, 0, true⟩ :: nodX A B ch x0 info nx ws :: intO nx :: intO ws :: L) (d := 1) 4 0 ws.length 1 ws.length
      have z1 : (ints nx).length = nx.length := by simp [ints]
      have z2 : (ints ws).length = ws.length := by simp [ints]
      have hne : nx ≠ [] := by intro e; subst e; simp at hnx; omega
      have hcl2 : closed (c.hp A B s') := closed_hp hcl
      have := fin_node (A := A) (B := B) (c := c) (s := s') (n0 := A.length + (B.length + 6)) (k := s.ns.length) (L := g :: ⟨[i64 x0, i64 x1, i64 x2], 104, 0, true⟩ :: nodX A B ch x0 info nx ws :: intO nx :: intO ws :: L) (r := i64 s.ns.length) (x := nodeN ch x0 info nx ws)
        (cx := [i64 (if ch = true then 1 else 2), i64 (if ch = true then 0 else x0), i64 (if ch = true then 0 else info), .own (A.length + (B.length + 9)) 0 nx.length 1 nx.length, if ch = true then .own (A.length + (B.length + 10)) 0 ws.length 1 ws.length else .val (.slice none 0 0), .val (.slice none 0 0)]) hcl2 (Nat.le_refl _) hlt (by
          rw [show A.length + (B.length + 9) = A.length + (B.length + 6) + 3 by omega, show A.length + (B.length + 10) = A.length + (B.length + 6) + 4 by omega]
          simp [placeOf, intO, z1, z2, List.take_of_length_le] at f1 f2
          cases ch with
          | true =>
            have hne2 : ws ≠ [] := by intro e; subst e; simp at hws; omega
            simp [nodeN, Nd.cN, slN, hne, hne2, sl, f1, f2, intO, placeOf, z1, z2, List.take_of_length_le]
          | false => simp [nodeN, Nd.cN, slN, hne, sl, f1, f2, intO, placeOf, z1, z2, List.take_of_length_le])
      simp [Mc.hp, Mc.D, Mc.L, Mc.M, Mc.V, Mc.N, Mc.I, nodX] at this ⊢
      exact this
    have hinv := hm.inv hc hi hp1 (by omega)
    have hA : Cl (A.length + (B.length + 6)) A := by have := closed_iff.1 hcl; rw [hp_len] at this; exact this.left
    have hB : Cl (A.length + (B.length + 6)) B := by have := closed_iff.1 hcl; rw [hp_len] at this; exact this.right.tail.tail.tail.tail.tail.tail
    have hloop : ∀ (ch : Bool), ch = decide (x0 < 0) → ∀ (env : Env) (K' : XE → Env → List AO → Prop), (∀ env H, X Try.prog N drawB (IC.tl 5 t60) env H (FinP (A.length + (B.length + 6)) r60 (buildP c A B s level)) → K' (.exit 0) env H) →
      env.get 0 = .ptr (.own (A.length + 1) 0 0 0 0) 0 → env.get 1 = i64 level → env.get 2 = seenV seen → env.get 7 = i64 s.ns.length → env.get 8 = .ptr (.own (A.length + (B.length + 7)) 0 0 0 0) 0 → env.get 9 = i64 many → env.get 11 = .ptr (.own (A.length + (B.length + 8)) 0 0 0 0) 0 → env.get 12 = i64 0 →
      LI Try.prog N drawB l60_0 env (c.hp A (B ++ g :: ⟨[i64 x0, i64 x1, i64 x2], 104, 0, true⟩ :: nodX A B ch x0 info [] [] :: intO [] :: intO [] :: []) { s2 with pend := s2.pend + many }) K' := by
      intro ch hch env K' hK' g0 g1 g2 g7 g8 g9 g11 g12
      refine loop60_0 (s1 := { s2 with pend := s2.pend + many }) (level := level) (many := many) (seen := seen) hc hb hA hB hg hs hsl hlv m3.2 hch (by show (many : Int) ≤ s2.pend + many; omega) (at' := s.ns.length) (fun env L s' nx ws subs isN vsN hnx hk hws hw hL k0 k7 k11 => hK' _ _ (hfin ch hch env L s' nx ws subs isN vsN hnx hk hws hw hL k0 k7 k11)) many env [] _ [] [] [] [] [] (by simp) (KPost.zero hinv) (by cases ch <;> rfl) (by simp) (Cl.nil _) g0 g1 g2 g7 g8 g9 g11 g12
    refine ⟨rfl, ?_⟩
    by_cases hx : 0 ≤ x0
    · rw [if_pos hx]
      refine ⟨rfl, LI.tell (Tell.own0 (j := A.length + (B.length + 8)) (p := 3) (o := ⟨[i64 2, i64 x0, i64 info, .val (.slice none 0 0), .val (.slice none 0 0), .val (.slice none 0 0)], 37, 0, true⟩) ?_ rfl rfl 3 1) (LI.tell (Tell.nil 3) (LI.cong (H' := c.hp A (B ++ g :: ⟨[i64 x0, i64 x1, i64 x2], 104, 0, true⟩ :: nodX A B false x0 info [] [] :: intO [] :: intO [] :: []) { s2 with pend := s2.pend + many }) ?_ (hloop false (by simpa using hx) _ _ (fun env H h => h) ?_ ?_ ?_ ?_ ?_ ?_ ?_ ?_)))⟩
      · simp only [get_app, get_c2, List.getElem?_cons_succ, get_app0, List.getElem?_cons_zero]
      · simp [Mc.hp, Mc.M, nodX, intO, set_app, set_c2]
        exact ⟨rfl, rfl, rfl, rfl, rfl⟩
      all_goals simp [h0, h1, h2, h7, h8, h9]
    · rw [if_neg hx]
      refine LI.tell (Tell.own0 (j := A.length + (B.length + 8)) (p := 3) (o := ⟨[i64 1, i64 0, i64 0, .val (.slice none 0 0), .val (.slice none 0 0), .val (.slice none 0 0)], 37, 0, true⟩) ?_ rfl rfl 3 1) (LI.tell (Tell.own0 (j := A.length + (B.length + 8)) (p := 4) (o := ⟨[i64 1, i64 0, i64 0, .own (A.length + (B.length + 9)) 0 0 1 0, .val (.slice none 0 0), .val (.slice none 0 0)], 37, 0, true⟩) ?_ rfl rfl 3 1)
        (LI.cong (H' := c.hp A (B ++ g :: ⟨[i64 x0, i64 x1, i64 x2], 104, 0, true⟩ :: nodX A B true x0 info [] [] :: intO [] :: intO [] :: []) { s2 with pend := s2.pend + many }) ?_ (hloop true (by simpa using hx) _ _ (fun env H h => h) ?_ ?_ ?_ ?_ ?_ ?_ ?_ ?_)))
      · simp only [get_app, get_c2, List.getElem?_cons_succ, get_app0, List.getElem?_cons_zero]
      · simp only [get_app, set_app, set_c2, get_c2, List.set_cons_succ, List.getElem?_cons_succ, set_app0, List.set_cons_zero, List.append_assoc, List.cons_append, get_app0, List.getElem?_cons_zero]
        simp
      · simp [Mc.hp, Mc.M, nodX, intO, set_app, set_c2]
        exact ⟨rfl, rfl, rfl, rfl, rfl⟩
      all_goals simp [h0, h1, h2, h7, h8, h9]
end
end Go.Proofs.Ytiikfkacbglblaa
/- G10 -/
namespace Go.Proofs.Ytiikfkacbglblaa
open Go.Ab
section
variable {A B : List AO} {c : Mc} {s : Ms} {level : Nat} {seen : List (List Int)}
def gb : AO := ⟨[i64 0, i64 0, i64 0, .val (.slice none 0 0), .val (.slice none 0 0), .val (.slice none 0 0)], 37, 0, true⟩
def Ms.push (s : Ms) : Ms := { s with ns := s.ns ++ [phN], vn := s.vn + 1, pend := s.pend - 1 }
def m60 : IC := .seq (IC.nth 4 i60) (.seq (IC.nth 5 i60) (.seq (IC.nth 6 i60) (.seq (IC.nth 7 i60) t60)))
theorem h60' : i60 = .seq (IC.nth 0 i60) (.seq (IC.nth 1 i60) (.seq (IC.nth 2 i60) (.seq (IC.nth 3 i60) m60))) := rfl
set_option maxRecDepth 10000 in
theorem mid60 {env : Env} {N : Nat} (hc : c.Good) (hle : level ≤ c.lv.length) (hb : level < c.lv.length → BuildOk c (level + 1)) (hi : MInv c s level) (hp1 : 1 ≤ s.pend) (hcl : closed (c.hp A B s)) (hs : (seen.length : Int) = c.pl) (hsl : ∀ l ∈ seen, l.length ≤ level)
    (h0 : env.get 0 = .ptr (.own (A.length + 1) 0 0 0 0) 0) (h1 : env.get 1 = i64 level) (h2 : env.get 2 = seenV seen) (h7 : env.get 7 = i64 s.ns.length) :
    X Try.prog N drawB m60 env (c.hp A (B ++ [gb]) s.push) (FinP (A.length + (B.length + 6)) r60 (buildP c A B s level)) := by
  have hcm := hc.m
  have hml := hi.ml
  have hcp := hc.p2
  have hil := hi.il
  have hvl := hi.vl
  have hlv := hc.lv
  have hend : ∀ a : Int, 0 ≤ a → OkP Try.prog 73 [.ptr (.own (A.length + 1) 0 0 0 0) 0, i64 s.ns.length] (c.hp A (B ++ [gb]) { s.push with at' := a }) (endQ c A (B ++ [gb]) { s.push with at' := a } s.ns.length) := fun a ha =>
    ok73 (A := A) (B := B ++ [gb]) (c := c) (s := { s.push with at' := a }) (k := s.ns.length) hc.l ha hc.p1 hc.p2 (by simp [Ms.push]) (by simp [Ms.push]; omega)
  have hfin : ∀ (a : Int), 0 ≤ a → ∀ o G', endQ c A (B ++ [gb]) { s.push with at' := a } s.ns.length o G' → o = .ret (.tup []) ∧ FinQ (c.hp A B s).length (buildP c A B s level) (i64 s.ns.length) G' := by
    rintro a ha o G' ⟨rfl, ps, a', p1, p2, p3, rfl⟩
    exact ⟨rfl, _, _, ⟨rfl, _, _, _, _, post_end (s3 := { s.push with at' := a }) hc hi hp1 rfl rfl rfl rfl p1 p2 p3, rfl⟩, hp_fin hcl rfl (fz_i64 _ _ _ _ _)⟩
  rw [hp_len] at hfin
  by_cases hlev : level = c.lv.length
  · simp -implicitDefEqProofs [m60, IC.nth, i60, r60, Mc.hp, Mc.M, h0, h1, h2, h7, hlev]
    refine call_goP (hend s.at' hi.a0) ?_
    intro o G' hq
    obtain ⟨rfl, hf⟩ := hfin _ hi.a0 _ _ hq
    simp -implicitDefEqProofs [h0, h1, h2, h7]
    rw [hlev] at hf
    exact hf
  · have hlt : level < c.lv.length := by omega
    have hd := rws_at lcN_len hlt
    have hd1 := rws_ge lcN_len hlt
    have hd2 := rws_min lcN_len hlt
    rw [lcN, List.cons_append, List.cons_append, List.cons_append, List.nil_append] at hd
    have hlr := hc.lvr _ (List.getElem_mem hlt)
    simp -implicitDefEqProofs [m60, IC.nth, i60, r60, Mc.hp, Mc.M, h0, h1, h2, h7, show ¬ ((level : Int) = c.lv.length) by omega]
    refine call_goP (OkP.strip (by show OkP Try.prog 59 [.ptr (.own A.length 0 0 0 0) 0, i64 8] _ _; exact ok59m (A := A) (B := B ++ [gb]) (c := c) (s := s.push) (n := 8) hc.l hi.a0 (by omega))) ?_
    rintro o G' ⟨v, a, rfl, ha, hv1, hv2, rfl⟩
    by_cases hv : v = 1
    · simp -implicitDefEqProofs [h0, h1, h2, h7, Mc.hp, Mc.M, hv, show ¬ ((level : Int) = c.lv.length) by omega]
      refine call_goP (hend a ha) ?_
      intro o G' hq
      obtain ⟨rfl, hf⟩ := hfin _ ha _ _ hq
      simp -implicitDefEqProofs [h0, h1, h2, h7]
      exact hf
    · generalize hx : c.lv[level] = x at hd hlr
      obtain ⟨x0, x1, x2⟩ := x
      simp only at hd hlr
      have htail := fun (s2 : Ms) (info many : Nat) (env : Env) (hm : MMid c s s2 level x0 info many) (k0 : env.get 0 = _) (k1 : env.get 1 = _) (k2 : env.get 2 = _) (k7 : env.get 7 = _) (k8 : env.get 8 = _) (k9 : env.get 9 = _) (k10 : env.get 10 = _) =>
        tail60 (A := A) (B := B) (c := c) (s := s) (s2 := s2) (seen := seen) (env := env) (g := gb) (N := N) (x1 := x1) (x2 := x2) hc hi hp1 hm (hb hlt) hcl (Cl.cons rfl (Cl.nil _)) hlt hs hsl k0 k1 k2 k7 k8 k9 k10
      by_cases hx0 : 0 ≤ x0
      · have hxl : x0.toNat < seen.length := by omega
        simp -implicitDefEqProofs [h0, h1, h2, h7, Mc.hp, Mc.M, Mc.L, hv, hd, hd1, hd2, hx0, hxl, seenV, sl, show x0 < (seen.length : Int) by omega, show ¬ ((level : Int) = c.lv.length) by omega, Nat.add_assoc, show 1 ≤ seen.length - x0.toNat by omega]
        refine ⟨hlt, ?_⟩
        have h74 := ok74 (A := A) (B := B ++ [gb, ⟨[i64 x0, i64 x1, i64 x2], 104, 0, true⟩]) (c := c) (s := { s.push with at' := a }) (pl := x0) (lv := level) (sn := seen[x0.toNat]) hc.l ha (by simp [Ms.push]; omega) (by simp [Ms.push]; omega) (fun v h => hi.vsn v h)
        refine call_goP (by simpa [Mc.hp, Mc.M, Mc.L, sl] using h74) ?_
        rintro o G' (⟨i, hil', e1, e2, rfl, rfl⟩ | ⟨k, a', hk1, hk2, ha', rfl, rfl⟩)
        · have hil2 : i < s.vs.length := hil'
          have hii : i < s.is.length := by omega
          obtain ⟨v1, v2⟩ := hi.vi i hil2
          have q1 := rws_get icN_len (t := 1) hii (by omega)
          simp only [icN, List.getElem?_cons_zero, List.getElem?_cons_succ] at q1
          have q2 := rws_ge icN_len hii
          have hr := hi.isr _ (List.getElem_mem hii)
          obtain ⟨many, hmany⟩ : ∃ m : Nat, s.is[i].2 = m := ⟨s.is[i].2.toNat, by omega⟩
          rw [hmany] at q1
          simp -implicitDefEqProofs [h0, h1, h2, h7, Mc.hp, Mc.M, Mc.I, Ms.push, v1, hii, q1, q2]
          refine ⟨by omega, ?_⟩
          have hq : s.is[i]? = some (x0, (many : Int)) := by
            rw [List.getElem?_eq_getElem hii, ← hmany]
            have : s.is[i].1 = x0 := by rw [← v2]; exact e1
            rw [← this]
          have := fun env k0 k1 k2 k7 k8 k9 k10 => htail { s.push with at' := a } i many env ⟨rfl, rfl, ha, by omega, .inr ⟨hx0, hq, .inl ⟨rfl, rfl, hil2, e2⟩⟩⟩ k0 k1 k2 k7 k8 k9 k10
          simp only [Mc.hp, Mc.M, Mc.I, Ms.push, List.length_append, List.length_singleton] at this ⊢
          refine this _ ?_ ?_ ?_ ?_ ?_ ?_ ?_ <;> simp [h0, h1, h2, h7]
        · obtain ⟨many, hmany⟩ : ∃ m : Nat, k = m := ⟨k.toNat, by omega⟩
          subst hmany
          have hii : s.is.length < (s.is ++ [(x0, (many : Int))]).length := by simp
          have q1 := rws_get icN_len (l := s.is ++ [(x0, (many : Int))]) (t := 1) hii (by omega)
          rw [List.getElem_append_right (by omega)] at q1
          simp only [icN, List.getElem?_cons_zero, List.getElem?_cons_succ, Nat.sub_self, List.getElem_cons_zero] at q1
          have q2 := rws_ge icN_len hii
          simp -implicitDefEqProofs [h0, h1, h2, h7, Mc.hp, Mc.M, Mc.I, Ms.push, Ms.addV, q1, q2]
          refine ⟨by omega, by omega, ?_⟩
          have := fun env k0 k1 k2 k7 k8 k9 k10 => htail ({ s.push with at' := a }.addV x0 level seen[x0.toNat] many a') s.is.length many env ⟨rfl, rfl, ha', by omega, .inr ⟨hx0, by simp [Ms.addV, Ms.push], .inr ⟨by omega, rfl, rfl, _, (by have := hsl _ (List.getElem_mem hxl); omega), rfl⟩⟩⟩ k0 k1 k2 k7 k8 k9 k10
          simp only [Mc.hp, Mc.M, Mc.I, Ms.push, Ms.addV, List.length_append, List.length_singleton] at this ⊢
          refine this _ ?_ ?_ ?_ ?_ ?_ ?_ ?_ <;> simp [h0, h1, h2, h7]
      · simp -implicitDefEqProofs [h0, h1, h2, h7, Mc.hp, Mc.M, Mc.L, hv, hd, hd1, hd2, hx0, show ¬ ((level : Int) = c.lv.length) by omega]
        refine ⟨hlt, ?_⟩
        obtain ⟨many, hmany⟩ : ∃ m : Nat, x1 = m := ⟨x1.toNat, by omega⟩
        refine htail { s.push with at' := a } 0 many _ ⟨rfl, rfl, ha, by omega, .inl ⟨by omega, rfl, rfl, rfl⟩⟩ ?_ ?_ ?_ ?_ ?_ ?_ ?_ <;> simp [h0, h1, h2, h7, hmany]
set_option maxRecDepth 10000 in
theorem build_step (hc : c.Good) (hle : level ≤ c.lv.length) (hb : level < c.lv.length → BuildOk c (level + 1)) : BuildOk c level := by
  intro A B s seen hi hp1 hs hsl
  refine okP_fn hm' Try.func60 c60 (by simp) fun hcl => ?_
  have hcm := hc.m
  have hml := hi.ml
  have z0 := rws_len Nd.lenN s.ns
  have w1 : IntKind.i64.wrap (s.pend - 1) = s.pend - 1 := wrap_id (by omega) (by omega)
  have ePh : rws Nd.cN (s.ns ++ [phN]) = rws Nd.cN s.ns ++ [i64 0, i64 0, i64 0, .val (.slice none 0 0), .val (.slice none 0 0), .val (.slice none 0 0)] := by rw [rws_app]; rfl
  rw [h60']
  simp -implicitDefEqProofs [IC.nth, i60, Mc.hp, Mc.M, Mc.N, w1, z0]
  refine ⟨rfl, by omega, by omega, ?_⟩
  have := fun env h0 h1 h2 h7 => mid60 (env := env) (N := Try.f60.ntmps) hc hle hb hi hp1 hcl hs hsl h0 h1 h2 h7
  simp only [Mc.hp, Mc.D, Mc.M, Mc.N, Mc.V, Mc.I, Ms.push, gb, ePh, List.append_assoc, List.length_append, List.length_singleton] at this ⊢
  refine this _ ?_ ?_ ?_ ?_ <;> simp
end
end Go.Proofs.Ytiikfkacbglblaa
/- G11 -/
namespace Go.Proofs.Ytiikfkacbglblaa
open Go.Ab
theorem build_ok {c : Mc} (hc : c.Good) : ∀ (f level : Nat), level + f = c.lv.length → BuildOk c level
  | 0, level, h => build_step hc (by omega) fun h' => absurd h' (by omega)
  | f + 1, level, h => build_step hc (by omega) fun _ => build_ok hc f (level + 1) (by omega)
theorem nds_rws : ∀ l : List Nd, nds l = rws Nd.cells l
  | [] => rfl
  | x :: r => by simp only [nds, rws, nds_rws r]
theorem infs_rws : ∀ l : List (Int × Int), infs l = rws icN l
  | [] => rfl
  | x :: r => by simp only [infs, rws, infs_rws r]; rfl
theorem Wlk.pos {b h : Nat} {sub : List Nd} (hw : Wlk b h sub) : 1 ≤ sub.length := by
  rcases sub with _ | ⟨x, r⟩
  · obtain ⟨m, h1, _⟩ := hw (List.replicate b phN) [] 0 0 0 (by simp) (by simp)
    simp [walkR] at h1
  · simp
structure Made (pl0 most : Int) (g : Gm) : Prop where
  pl : g.pl = pl0
  n1 : 1 ≤ g.ns.length
  ml : (g.ns.length : Int) ≤ most
  il : g.is.length ≤ g.ns.length
  wlk : Wlk 0 10 g.ns
  good : ∀ x ∈ g.ns, x.good pl0 g.is
  rg : rg g.ns 0 = some g.is.length
  isr : ∀ q ∈ g.is, 0 ≤ q.1 ∧ q.1 < pl0 ∧ 1 ≤ q.2 ∧ q.2 ≤ 3
theorem Made.form {pl most : Int} {g : Gm} (h : Made pl most g) (p1 : 1 ≤ pl) (p4 : pl ≤ 4) (hm : most ≤ 200) : g.formE = 0 := by
  have := h.ml; have := h.il; have := h.pl; have := h.n1
  exact made_ok (by omega) (by omega) h.n1 (by omega) (by omega) h.wlk (by omega) (by rw [h.pl]; exact h.good) h.rg
def gv36 (n : Nat) (pl : Int) (s : Ms) : SV := .agg [i64 pl, .own (n + 5) 0 s.ns.length 6 s.vn, .own (n + 6) 0 s.is.length 2 s.vi]
section
variable {H : List AO}
set_option maxRecDepth 10000 in
theorem loop36 {l : List Int} {pl most : Int} {zero : Bool} {m0 : Nat} {A : List AO} {N : Nat} {K : XE → Env → List AO → Prop} (hl : l.length < 4611686018427387904) (p1 : 1 ≤ pl) (p2 : pl ≤ 1000) (hm0 : m0 ≤ 50)
    (hexit : ∀ env B lv a, lv.length ≤ m0 → (∀ q ∈ lv, -1 ≤ q.1 ∧ q.1 < pl ∧ 2 ≤ q.2.1 ∧ q.2.1 ≤ 3) → 0 ≤ a → env.get 1 = i64 pl → env.get 8 = .ptr (.own (A.length - 1) 0 0 0 0) 0 → env.get 9 = .ptr (.own (A.length + 1) 0 0 0 0) 0 →
      K (.exit 0) env ((⟨l, lv, lv.length, most, zero, pl⟩ : Mc).hp A B ⟨a, 1, 0, 0, 0, [], [], []⟩)) :
    ∀ (n : Nat) (env : Env) (B : List AO) (lv : List (Int × Int × Int)) (a : Int), lv.length + n = m0 → (∀ q ∈ lv, -1 ≤ q.1 ∧ q.1 < pl ∧ 2 ≤ q.2.1 ∧ q.2.1 ≤ 3) → 0 ≤ a → env.get 1 = i64 pl → env.get 8 = .ptr (.own (A.length - 1) 0 0 0 0) 0 → env.get 9 = .ptr (.own (A.length + 1) 0 0 0 0) 0 → env.get 10 = i64 n →
      LI Try.prog N drawB l36_0 env ((⟨l, lv, lv.length, most, zero, pl⟩ : Mc).hp A B ⟨a, 1, 0, 0, 0, [], [], []⟩) K := by
  intro n
  induction n with
  | zero =>
    intro env B lv a hn hlv ha h1 h8 h9 h10
    refine li_go hm' l36_0.eq_1 ?_
    simp -implicitDefEqProofs [h1, h8, h9, h10]
    refine hexit _ B lv a (by omega) hlv ha ?_ ?_ ?_ <;> simp [h1, h8, h9]
  | succ n ih =>
    intro env B lv a hn hlv ha h1 h8 h9 h10
    refine li_go hm' l36_0.eq_1 ?_
    have w0 : IntKind.i64.wrap (pl + 1) = pl + 1 := wrap_id (by omega) (by omega)
    have w1 : IntKind.i64.wrap (n : Int) = n := wrap_nat (by omega)
    have z0 := rws_len lcN_len lv
    simp -implicitDefEqProofs [h1, h8, h9, h10, Mc.hp, Mc.M, w0, show (0 : Int) < n + 1 by omega]
    refine call_goP (ok59m (A := A) (B := B) (c := ⟨l, lv, lv.length, most, zero, pl⟩) (n := pl + 1) (s := ⟨a, 1, 0, 0, 0, [], [], []⟩) hl ha (by omega)) ?_
    rintro o G' ⟨v, a1, rfl, ha1, hv1, hv2, rfl⟩
    have w2 : IntKind.i64.wrap (v - 1) = v - 1 := wrap_id (by omega) (by omega)
    simp -implicitDefEqProofs [h1, h8, h9, h10, Mc.hp, Mc.M, w0, w2]
    refine call_goP (ok59m (A := A) (B := B) (c := ⟨l, lv, lv.length, most, zero, pl⟩) (n := 2) (s := ⟨a1, 1, 0, 0, 0, [], [], []⟩) hl ha1 (by omega)) ?_
    rintro o G' ⟨u, a2, rfl, ha2, hu1, hu2, rfl⟩
    have w3 : IntKind.i64.wrap (2 + u) = 2 + u := wrap_id (by omega) (by omega)
    simp -implicitDefEqProofs [h1, h8, h9, h10, Mc.hp, Mc.M, w0, w2, w3]
    refine call_goP (ok59m (A := A) (B := B) (c := ⟨l, lv, lv.length, most, zero, pl⟩) (n := 16) (s := ⟨a2, 1, 0, 0, 0, [], [], []⟩) hl ha2 (by omega)) ?_
    rintro o G' ⟨t, a3, rfl, ha3, ht1, ht2, rfl⟩
    simp -implicitDefEqProofs [h1, h8, h9, h10, Mc.hp, Mc.M, Mc.L, w0, w1, w2, w3, z0]
    refine ⟨by omega, by omega, ?_⟩
    refine LI.cong (H' := (⟨l, lv ++ [(v - 1, 2 + u, t)], (lv ++ [(v - 1, 2 + u, t)]).length, most, zero, pl⟩ : Mc).hp A (B ++ [⟨[i64 (v - 1), i64 (2 + u), i64 t], 104, 0, true⟩]) ⟨a3, 1, 0, 0, 0, [], [], []⟩) (by simp [Mc.hp, Mc.D, Mc.L, Mc.M, Mc.V, Mc.N, Mc.I, rws_app, rws, lcN]) ?_
    refine ih _ _ _ _ (by simp; omega) ?_ ha3 ?_ ?_ ?_ ?_
    · intro q hq
      rcases List.mem_append.1 hq with h | h
      · exact hlv q h
      · simp at h; subst h; simp only; omega
    all_goals simp [h1, h8, h9, w1]
set_option maxRecDepth 10000 in
theorem gen36 {l : List Int} {pl most : Int} {zero : Bool} {Pt : Out → List AO → Prop} (hl : l.length < 4611686018427387904) (p1 : 1 ≤ pl) (p2 : pl ≤ 1000) (m1 : 1 ≤ most) (m2 : most ≤ 2000)
    (hfin : closed H → ∀ (c : Mc) (s : Ms) (B : List AO) (o : AO), Made pl most ⟨pl, s.ns, s.is⟩ → FinQ H.length Pt (gv36 H.length pl s) (c.hp (H ++ [o]) B s)) :
    OkP Try.prog 36 [.slc (ints l) l.length, i64 pl, i64 most, bl zero] H Pt := by
  refine okP_fn hm' Try.func36 c36 (by simp) fun hcl => ?_
  simp -implicitDefEqProofs [i36, r36]
  have h59 := ok59 (G := H ++ [⟨[i64 0, .val (.slice none 0 0), .val (.slice none 0 0)], 25, 0, true⟩, ⟨[.slc (ints l) l.length, i64 0], 96, 0, true⟩, ⟨[.ptr (.own (H.length + 1) 0 0 0 0) 0, .val (.slice none 0 0), .val (.slice none 0 0), i64 most, i64 1, bl zero, bl false, i64 pl, .val (.slice none 0 0), .val (.slice none 0 0)], 102, 0, true⟩]) (l := l) (at' := 0) (n := 5) (jd := H.length + 1) (by simp [get_app]) hl (by omega) (by omega)
  refine ⟨rfl, ?_⟩
  refine call_goP h59 ?_
  rintro o G' ⟨v, a, rfl, ha, hv1, hv2, rfl⟩
  have w1 : IntKind.i64.wrap (1 + v) = 1 + v := wrap_id (by omega) (by omega)
  simp -implicitDefEqProofs [w1]
  obtain ⟨m0, hm0⟩ : ∃ m : Nat, 1 + v = m := ⟨(1 + v).toNat, by omega⟩
  rw [hm0]
  have z1 : H.length + 1 - 1 = H.length := by omega
  refine LI.tell (Tell.own0 (j := H.length + 2) (p := 1) (o := ⟨[.ptr (.own (H.length + 1) 0 0 0 0) 0, .val (.slice none 0 0), .val (.slice none 0 0), i64 most, i64 1, bl zero, bl false, i64 pl, .val (.slice none 0 0), .val (.slice none 0 0)], 102, 0, true⟩) ?_ rfl rfl 104 3)
    (LI.tell (Tell.own0 (j := H.length + 2) (p := 2) (o := ⟨[.ptr (.own (H.length + 1) 0 0 0 0) 0, .own (H.length + 3) 0 0 3 0, .val (.slice none 0 0), i64 most, i64 1, bl zero, bl false, i64 pl, .val (.slice none 0 0), .val (.slice none 0 0)], 102, 0, true⟩) ?_ rfl rfl 125 4)
    (LI.tell (Tell.own0 (j := H.length + 2) (p := 8) (o := ⟨[.ptr (.own (H.length + 1) 0 0 0 0) 0, .own (H.length + 3) 0 0 3 0, .own (H.length + 4) 0 0 4 0, i64 most, i64 1, bl zero, bl false, i64 pl, .val (.slice none 0 0), .val (.slice none 0 0)], 102, 0, true⟩) ?_ rfl rfl 37 6)
    (LI.tell (Tell.own0 (j := H.length + 2) (p := 9) (o := ⟨[.ptr (.own (H.length + 1) 0 0 0 0) 0, .own (H.length + 3) 0 0 3 0, .own (H.length + 4) 0 0 4 0, i64 most, i64 1, bl zero, bl false, i64 pl, .own (H.length + 5) 0 0 6 0, .val (.slice none 0 0)], 102, 0, true⟩) ?_ rfl rfl 34 2)
    (LI.cong (H' := (⟨l, [], 0, most, zero, pl⟩ : Mc).hp (H ++ [⟨[i64 0, .val (.slice none 0 0), .val (.slice none 0 0)], 25, 0, true⟩]) [] ⟨a, 1, 0, 0, 0, [], [], []⟩) ?_
      (loop36 (A := H ++ [⟨[i64 0, .val (.slice none 0 0), .val (.slice none 0 0)], 25, 0, true⟩]) (m0 := m0) hl p1 p2 (by omega) (fun env B lv a hlv hq ha k1 k8 k9 => ?_) m0 _ [] [] a (by simp) (by simp) ha ?_ ?_ ?_ ?_)))))
  · simp only [get_app, set_app, List.set_cons_succ, List.set_cons_zero]; rfl
  · simp only [get_app, set_app, List.set_cons_succ, List.set_cons_zero]; simp [get_app]
  · simp [get_app, set_app]
  · simp [get_app, set_app]
  · simp [Mc.hp, Mc.D, Mc.L, Mc.M, Mc.V, Mc.N, Mc.I, rws, set_app]
  · simp at k8 k9
    have hc : (⟨l, lv, lv.length, most, zero, pl⟩ : Mc).Good := ⟨hl, p1, p2, m2, by simp only; omega, hq⟩
    have hi : MInv ⟨l, lv, lv.length, most, zero, pl⟩ ⟨a, 1, 0, 0, 0, [], [], []⟩ 0 := ⟨ha, rfl, fun j h => by simp at h, by simp, fun j h => by simp at h, by simp, by simp, by simp, by simp only [List.length_nil]; omega⟩
    obtain ⟨np, hnp⟩ : ∃ np : Nat, pl = np := ⟨pl.toNat, by omega⟩
    have hb := build_ok hc lv.length 0 (by simp) (H ++ [⟨[i64 0, .val (.slice none 0 0), .val (.slice none 0 0)], 25, 0, true⟩]) (B ++ [⟨[], 35, 1, false⟩]) ⟨a, 1, 0, 0, 0, [], [], []⟩ (List.replicate np []) hi (by simp) (by simp [hnp]) (by intro x hx; simp [List.mem_replicate] at hx; simp [hx.2])
    simp -implicitDefEqProofs [k1, k8, k9, Mc.hp, Mc.M]
    refine ⟨by omega, by omega, by omega, ?_⟩
    refine call_goP (OkP.give (H.length + (B.length + 7)) 1 (o := ⟨List.replicate np nl, 35, 0, true⟩) ?_ rfl (OkP.le ?_ (OkP.cast rfl ?_ hb))) ?_
    · rw [get_app]
      simp [get_app0, get_app, hnp]
    · simp [hnp, seenV, Nat.add_assoc]
      refine leL.cons (SV.le.refl _) (leL.cons (SV.le.refl _) (leL.cons (le_slc ⟨by simp, fun j x y h1 h2 => ?_⟩ _) leL.nil))
      simp [List.getElem?_replicate] at h1 h2
      obtain ⟨_, rfl⟩ := h1
      obtain ⟨_, rfl⟩ := h2
      exact le_nil
    · simp [Mc.hp, Mc.M, set_app, set_app0, AO.dead, hnp]
    rintro o G' ⟨rfl, s', sub, isN, vsN, hp, rfl⟩
    simp -implicitDefEqProofs [k1, k8, k9, Mc.hp, Mc.M]
    have e1 : s'.ns = sub := hp.ns
    have hml := hp.inv.ml
    have hpe := hp.pend
    simp only at hml hpe
    have := hfin hcl ⟨l, lv, lv.length, most, zero, pl⟩ s' (B ++ [⟨[], 35, 1, false⟩]) ⟨[i64 pl, .own (H.length + 1 + 4) 0 s'.ns.length 6 s'.vn, .own (H.length + 1 + 5) 0 s'.is.length 2 s'.vi], 25, 0, true⟩
      ⟨rfl, by show 1 ≤ s'.ns.length; rw [e1]; exact hp.wlk.pos, by show (s'.ns.length : Int) ≤ most; omega, hp.inv.il, by show Wlk 0 10 s'.ns; rw [e1]; exact hp.wlk.mono (by simp only; omega), by show ∀ x ∈ s'.ns, x.good pl s'.is; rw [e1]; exact hp.good, by show rg s'.ns 0 = some s'.is.length; rw [e1]; exact hp.rg, hp.inv.isr⟩
    simpa [gv36, Mc.hp, Mc.M] using this
  all_goals simp
theorem slN_le (l : List Int) : SV.le (slN l) (sl l) := by
  unfold slN
  split
  · rename_i h; subst h; exact le_nil
  · exact SV.le.refl _
theorem cN_le (x : Nd) : leL x.cN x.cells := leL.cons (SV.le.refl _) (leL.cons (SV.le.refl _) (leL.cons (SV.le.refl _) (leL.cons (slN_le _) (leL.cons (slN_le _) (leL.cons (slN_le _) leL.nil)))))
theorem gN_le (g : Gm) : SV.le (.agg [i64 g.pl, .slc (rws Nd.cN g.ns) g.ns.length, .slc (rws icN g.is) g.is.length]) (.agg g.cells) := by
  unfold Gm.cells
  rw [nds_rws, infs_rws]
  exact le_agg (leL.cons (SV.le.refl _) (leL.cons (le_slc (leL.rws cN_le _) _) (leL.cons (SV.le.refl _) leL.nil)))
theorem icN_under (n : Nat) (x : Int × Int) : SV.underL n (icN x) = true := by simp [icN, SV.underL, SV.under]
/-- A GAME MADE OF NUMBERS. -/
theorem ok36 {l : List Int} {pl most : Int} {zero : Bool} (hl : l.length < 4611686018427387904) (p1 : 1 ≤ pl) (p2 : pl ≤ 1000) (m1 : 1 ≤ most) (m2 : most ≤ 2000) :
    OkP Try.prog 36 [.slc (ints l) l.length, i64 pl, i64 most, bl zero] H fun o H' => ∃ g, Made pl most g ∧ o = .ret (.agg g.cells) ∧ H' = H := by
  refine gen36 hl p1 p2 m1 m2 fun hcl c s B o hm => ⟨_, H, ⟨_, hm, rfl, rfl⟩, ?_⟩
  refine Cv.le ?_ (gN_le ⟨pl, s.ns, s.is⟩)
  have z1 := rws_len Nd.lenN s.ns
  have z2 := rws_len icN_len s.is
  have e : c.hp (H ++ [o]) B s = H ++ (o :: c.D s :: c.M (H ++ [o]).length s :: c.L :: Mc.V s :: Mc.N s :: Mc.I s :: B) := by simp [Mc.hp]
  rw [e]
  refine cv_fz 4 hcl rfl ?_
  simp [gv36, Mc.N, Mc.I, placeOf, z1, z2, List.take_of_length_le, map_fz_under, rws_under (cN_under _), rws_under (icN_under _)]
/-- The same, where the nodes and sets stay rows of one's own. -/
theorem ok36k {l : List Int} {pl most : Int} {zero : Bool} (hl : l.length < 4611686018427387904) (p1 : 1 ≤ pl) (p2 : pl ≤ 1000) (m1 : 1 ≤ most) (m2 : most ≤ 2000) :
    OkP Try.prog 36 [.slc (ints l) l.length, i64 pl, i64 most, bl zero] H fun o H' => ∃ g, Made pl most g ∧ o = .ret (.agg [i64 pl, .own H.length 0 g.ns.length 6 0, .own (H.length + 1) 0 g.is.length 2 0]) ∧ H' = H ++ [⟨rws Nd.cN g.ns, 37, 0, true⟩, ⟨rws icN g.is, 34, 0, true⟩] := by
  refine gen36 hl p1 p2 m1 m2 fun hcl c s B o hm => ⟨_, _, ⟨_, hm, rfl, rfl⟩, ?_⟩
  have z1 := rws_len Nd.lenN s.ns
  have z2 := rws_len icN_len s.is
  have e : c.hp (H ++ [o]) B s = H ++ (o :: c.D s :: c.M (H ++ [o]).length s :: c.L :: Mc.V s :: Mc.N s :: Mc.I s :: B) := by simp [Mc.hp]
  rw [e]
  refine cv_kp 4 [5, 6] hcl rfl ?_ ?_ ?_
  · simp [gv36, Mc.N, Mc.I, placeOf]
  · simp [keptOk, Mc.N, Mc.I, map_fz_under, rws_under (cN_under _), rws_under (icN_under _)]
    exact ⟨rws_cells cN_cells _, rws_cells (fun x => by intro y hy; simp [icN] at hy; rcases hy with rfl | rfl <;> rfl) _⟩
  · simp [keptO, Mc.N, Mc.I, map_fz_under, rws_under (cN_under _), rws_under (icN_under _)]
end
end Go.Proofs.Ytiikfkacbglblaa
