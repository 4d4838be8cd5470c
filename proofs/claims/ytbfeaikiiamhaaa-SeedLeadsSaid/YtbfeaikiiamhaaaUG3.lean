/-
  Steps of the proof: contracts of functions and plain facts that the statement rests on.
-/
import Derived.Test.YtbfeaikiiamhaaaUG1
import Derived.Test.YtbfeaikiiamhaaaUG2
set_option linter.all false
namespace Go.Proofs.Ytbfeaikiiamhaaa.Rc
open Go.Ab
/-- What a player saw. -/
structure Vw where
  pl : Int
  lv : Int
  sn : List Int
  inf : Int
def Vw.cells (v : Vw) : List SV := [i64 v.pl, i64 v.lv, .slc (ints v.sn) v.sn.length, i64 v.inf]
def Nd.cN (x : Nd) : List SV := [i64 x.k, i64 x.p, i64 x.i, slN x.nx, slN x.ws, slN x.ps]
def icN (x : Int × Int) : List SV := [i64 x.1, i64 x.2]
def lcN (x : Int × Int × Int) : List SV := [i64 x.1, i64 x.2.1, i64 x.2.2]
theorem Vw.len (v : Vw) : v.cells.length = 4 := rfl
theorem Nd.lenN (v : Nd) : v.cN.length = 6 := rfl
theorem icN_len (v : Int × Int) : (icN v).length = 2 := rfl
theorem lcN_len (v : Int × Int × Int) : (lcN v).length = 3 := rfl
/-- What stays while a game is made. -/
structure Mc where
  l : List Int
  lv : List (Int × Int × Int)
  vl : Nat
  most : Int
  zero : Bool
  pl : Int
/-- What changes. -/
structure Ms where
  at' : Int
  pend : Int
  vn : Nat
  vi : Nat
  vv : Nat
  ns : List Nd
  is : List (Int × Int)
  vs : List Vw
section
variable (a : Nat) (c : Mc) (s : Ms)
def Mc.D : AO := ⟨[.slc (ints c.l) c.l.length, i64 s.at'], 54, 0, true⟩
def Mc.M : AO := ⟨[.ptr (.own a 0 0 0 0) 0, .own (a + 2) 0 c.lv.length 3 c.vl, .own (a + 3) 0 s.vs.length 4 s.vv, i64 c.most, i64 s.pend, bl c.zero, bl false, i64 c.pl, .own (a + 4) 0 s.ns.length 6 s.vn, .own (a + 5) 0 s.is.length 2 s.vi], 76, 0, true⟩
def Mc.L : AO := ⟨rws lcN c.lv, 78, c.vl, true⟩
def Mc.V : AO := ⟨rws Vw.cells s.vs, 107, s.vv, true⟩
def Mc.N : AO := ⟨rws Nd.cN s.ns, 39, s.vn, true⟩
def Mc.I : AO := ⟨rws icN s.is, 70, s.vi, true⟩
end
/-- The heap of a maker. -/
def Mc.hp (c : Mc) (A B : List AO) (s : Ms) : List AO := A ++ (c.D s :: c.M A.length s :: c.L :: Mc.V s :: Mc.N s :: Mc.I s :: B)
section
variable {A B : List AO} {c : Mc} {s : Ms}
def nextP (c : Mc) (A B : List AO) (s : Ms) (n : Int) (o : Out) (G' : List AO) : Prop := ∃ v a : Int, o = .ret (i64 v) ∧ 0 ≤ a ∧ 0 ≤ v ∧ (1 ≤ n → v < n) ∧ G' = c.hp A B { s with at' := a }
theorem ok30m {n : Int} (hl : c.l.length < 4611686018427387904) (h0 : 0 ≤ s.at') (hn : n ≤ 9223372036854775807) :
    OkP Try.prog 30 [.ptr (.own A.length 0 0 0 0) 0, i64 n] (c.hp A B s) (nextP c A B s n) := by
  refine (ok30U (l := c.l) (at' := s.at') (by simp [Mc.hp, Mc.D]) hl h0 hn).mono ?_
  rintro o G' ⟨v, a, h1, h2, h3, h4, h5⟩
  refine ⟨v, a, h1, h2, h3, h4, ?_⟩
  rw [h5]
  simp [Mc.hp, Mc.D, Mc.M, Mc.V, Mc.N, Mc.I]
set_option maxRecDepth 10000 in
theorem loop74 {pl lv : Int} {sn : List Int} {N : Nat} {K : XE → Env → List AO → Prop} (hv : s.vs.length < 1000000) (hsl : ∀ v ∈ s.vs, v.sn.length ≤ 100)
    (hret : ∀ i (h : i < s.vs.length), s.vs[i].pl = pl → s.vs[i].lv = lv → ∀ env B' L, B' = B ++ L → env.get 8 = i64 s.vs[i].inf → K .ret env (c.hp A B' s))
    (hexit : ∀ env B' L, B' = B ++ L → env.get 0 = .ptr (.own (A.length + 1) 0 0 0 0) 0 → env.get 1 = i64 pl → env.get 2 = i64 lv → env.get 3 = .slc (ints sn) sn.length → K (.exit 0) env (c.hp A B' s)) :
    ∀ (n i : Nat) (env : Env) (B' L : List AO), B' = B ++ L → i + n = s.vs.length → env.get 0 = .ptr (.own (A.length + 1) 0 0 0 0) 0 → env.get 1 = i64 pl → env.get 2 = i64 lv → env.get 3 = .slc (ints sn) sn.length → env.get 9 = i64 i →
      LI Try.prog N drawB l56_0 env (c.hp A B' s) K := by
  intro n
  induction n with
  | zero =>
    intro i env B' L hB hi h0 h1 h2 h3 h9
    refine li_go hm' l56_0.eq_1 ?_
    have e : i = s.vs.length := by omega
    subst e
    simp -implicitDefEqProofs [h0, h1, h2, h3, h9, Mc.hp, Mc.M]
    exact hexit _ B' L hB (by simp [h0]) (by simp [h1]) (by simp [h2]) (by simp [h3])
  | succ n ih =>
    intro i env B' L hB hi h0 h1 h2 h3 h9
    refine li_go hm' l56_0.eq_1 ?_
    have hlt : i < s.vs.length := by omega
    have d := rws_at Vw.len hlt
    have d1 := rws_ge Vw.len hlt
    have d2 := rws_min Vw.len hlt
    rw [Vw.cells, List.cons_append, List.cons_append, List.cons_append, List.cons_append, List.nil_append] at d
    have w1 : IntKind.i64.wrap ((i : Int) + 1) = ((i + 1 : Nat) : Int) := wrap_succ (by omega)
    have hgo : ∀ env' x, env'.get 0 = .ptr (.own (A.length + 1) 0 0 0 0) 0 → env'.get 1 = i64 pl → env'.get 2 = i64 lv → env'.get 3 = .slc (ints sn) sn.length → env'.get 9 = i64 ((i + 1 : Nat) : Int) →
        LI Try.prog N drawB l56_0 env' (c.hp A (B' ++ [x]) s) K := fun env' x g0 g1 g2 g3 g9 => ih (i + 1) env' (B' ++ [x]) (L ++ [x]) (by simp [hB]) (by omega) g0 g1 g2 g3 g9
    have hsn := hsl _ (List.getElem_mem hlt)
    by_cases hp : s.vs[i].pl = pl
    · by_cases hq : s.vs[i].lv = lv
      · simp -implicitDefEqProofs [h0, h1, h2, h3, h9, hlt, Mc.hp, Mc.M, Mc.V, d, d1, d2, hp, hq]
        refine callq_st (fun _ => by simp only [List.map_cons, List.map_nil, SV.strip]; exact ok22 (l := s.vs[i].sn) (m := sn) (isc _ _) (isc _ _) (by omega)) ?_
        by_cases he : s.vs[i].sn = sn
        · simp -implicitDefEqProofs [hlt, d, d1, d2, hp, hq, he]
          have := hret i hlt hp hq
          refine this _ (B' ++ [_]) (L ++ [_]) (by rw [hB, List.append_assoc]) ?_; simp
        · simp -implicitDefEqProofs [hlt, d, d1, d2, hp, hq, he]
          refine hgo _ _ ?_ ?_ ?_ ?_ ?_ <;> simp [h0, h1, h2, h3, w1]
      · simp -implicitDefEqProofs [h0, h1, h2, h3, h9, hlt, Mc.hp, Mc.M, Mc.V, d, d1, d2, hp, hq]
        refine callq_off _ _ _ _ ?_
        simp -implicitDefEqProofs [hlt, d, d1, d2, hp, hq]
        refine hgo _ _ ?_ ?_ ?_ ?_ ?_ <;> simp [h0, h1, h2, h3, w1]
    · simp -implicitDefEqProofs [h0, h1, h2, h3, h9, hlt, Mc.hp, Mc.M, Mc.V, d, d1, d2, hp]
      refine callq_off _ _ _ _ ?_
      simp -implicitDefEqProofs [hlt, d, d1, d2, hp]
      refine hgo _ _ ?_ ?_ ?_ ?_ ?_ <;> simp [h0, h1, h2, h3, w1]
def Ms.addV (s : Ms) (pl lv : Int) (sn : List Int) (k : Int) (a : Int) : Ms :=
  { s with at' := a, vs := s.vs ++ [⟨pl, lv, sn, s.is.length⟩], vv := s.vv + 1, is := s.is ++ [(pl, k)], vi := s.vi + 1 }
theorem slN_under (n : Nat) (l : List Int) : (slN l).under n = true := by unfold slN; split; rfl; simp only [sl, SV.under]; exact underL_ints n l
theorem hp_len : (c.hp A B s).length = A.length + (B.length + 6) := by simp [Mc.hp]
theorem closed_hp {s' : Ms} (h : closed (c.hp A B s)) : closed (c.hp A B s') := by
  intro i o ho x hx
  have hl : (c.hp A B s').length = (c.hp A B s).length := by rw [hp_len, hp_len]
  by_cases h1 : i < A.length
  · have e : (c.hp A B s)[i]? = some o := by
      unfold Mc.hp at ho ⊢; rw [List.getElem?_append_left h1] at ho ⊢; exact ho
    rw [hl]; exact h i o e x hx
  · by_cases h2 : A.length + 6 ≤ i
    · have e : (c.hp A B s)[i]? = some o := by
        unfold Mc.hp at ho ⊢
        obtain ⟨k, rfl⟩ : ∃ k, i = A.length + (k + 6) := ⟨i - A.length - 6, by omega⟩
        rw [List.getElem?_append_right (by omega)] at ho ⊢
        simpa using ho
      rw [hl]; exact h i o e x hx
    · obtain ⟨k, rfl⟩ : ∃ k, i = A.length + k := ⟨i - A.length, by omega⟩
      unfold Mc.hp at ho
      rw [List.getElem?_append_right (by omega)] at ho
      have hk : k < 6 := by omega
      rw [hp_len]
      have e : A.length + k - A.length = k := by omega
      rw [e] at ho
      have key : ∀ l : List SV, SV.underL (A.length + (B.length + 6)) l = true → x ∈ l → x.under (A.length + (B.length + 6)) = true := fun l h1 h2 => (SV.underL_iff _ _).1 h1 x h2
      match k, hk with
      | 0, _ => simp at ho; subst ho; exact key _ (by simp [Mc.D, SV.underL, SV.under]) hx
      | 1, _ => simp at ho; subst ho; exact key _ (by simp [Mc.M, SV.underL, SV.under]) hx
      | 2, _ => simp at ho; subst ho; exact key _ (rws_under (fun x => by simp [lcN, SV.underL, SV.under]) _) hx
      | 3, _ => simp at ho; subst ho; exact key _ (rws_under (fun x => by simp [Vw.cells, SV.underL, SV.under]) _) hx
      | 4, _ => simp at ho; subst ho; exact key _ (rws_under (fun x => by simp [Nd.cN, SV.underL, SV.under, slN_under]) _) hx
      | 5, _ => simp at ho; subst ho; exact key _ (rws_under (fun x => by simp [icN, SV.underL, SV.under]) _) hx
/-- The end of one of the maker's functions. -/
theorem hp_fin {s' : Ms} (h : closed (c.hp A B s)) {B' L : List AO} (hB : B' = B ++ L) {r r' : SV} (hr : r.fz (c.hp A B s').length [] L 2 = r') : Cv (c.hp A B s).length r (c.hp A B' s') r' (c.hp A B s') := by
  subst hB
  have e : c.hp A (B ++ L) s' = c.hp A B s' ++ L := by simp [Mc.hp]
  rw [e]
  exact cv_fz 2 (closed_hp h) (by rw [hp_len, hp_len]) hr
def findP (c : Mc) (A B : List AO) (s : Ms) (pl lv : Int) (sn : List Int) (o : Out) (G' : List AO) : Prop :=
  (∃ i, ∃ h : i < s.vs.length, s.vs[i].pl = pl ∧ s.vs[i].lv = lv ∧ o = .ret (i64 s.vs[i].inf) ∧ G' = c.hp A B s) ∨
  (∃ k a : Int, 1 ≤ k ∧ k ≤ 3 ∧ 0 ≤ a ∧ o = .ret (i64 s.is.length) ∧ G' = c.hp A B (s.addV pl lv sn k a))
set_option maxRecDepth 10000 in
theorem ok56 {pl lv : Int} {sn : List Int} (hl : c.l.length < 4611686018427387904) (h0 : 0 ≤ s.at') (hv : s.vs.length < 1000000) (hi : s.is.length < 1000000) (hsl : ∀ v ∈ s.vs, v.sn.length ≤ 100) :
    OkP Try.prog 56 [.ptr (.own (A.length + 1) 0 0 0 0) 0, i64 pl, i64 lv, .slc (ints sn) sn.length] (c.hp A B s) (findP c A B s pl lv sn) := by
  refine okP_fn hm' Try.func56 c56 (by simp) fun hcl => ?_
  simp -implicitDefEqProofs [i56, r56]
  refine loop74 (B := B) (pl := pl) (lv := lv) (sn := sn) hv hsl (fun i h e1 e2 env B' L hB h8 => ?_) (fun env B' L hB g0 g1 g2 g3 => ?_) s.vs.length 0 _ B [] (by simp) (by omega) (by simp) (by simp) (by simp) (by simp) (by simp)
  · simp -implicitDefEqProofs [h8]
    exact ⟨_, _, .inl ⟨i, h, e1, e2, rfl, rfl⟩, hp_fin hcl hB (fz_i64 _ _ _ _ _)⟩
  · simp -implicitDefEqProofs [g0, g1, g2, g3, Mc.hp, Mc.D, Mc.L, Mc.M, Mc.V, Mc.N, Mc.I, rws_len Vw.len]
    refine ⟨by omega, by omega, ?_⟩
    have h59 := ok30m (A := A) (c := c) (B := B' ++ [⟨[i64 pl, i64 lv, SV.slc (ints sn) sn.length, i64 s.is.length], 107, 0, true⟩]) (n := 3) (s := { s with vs := s.vs ++ [⟨pl, lv, sn, s.is.length⟩], vv := s.vv + 1 }) hl h0 (by omega)
    refine call_goP (by simpa [Mc.hp, Mc.D, Mc.L, Mc.M, Mc.V, Mc.N, Mc.I, rws_app, rws, Vw.cells] using h59) ?_
    rintro o G' ⟨v, a, rfl, h1, h2, h3, rfl⟩
    have w1 : IntKind.i64.wrap (1 + v) = 1 + v := wrap_id (by omega) (by omega)
    have w2 : IntKind.i64.wrap (s.is.length : Int) = s.is.length := wrap_nat (by omega)
    simp -implicitDefEqProofs [g0, g1, g2, g3, Mc.hp, Mc.D, Mc.L, Mc.M, Mc.V, Mc.N, Mc.I, rws_len icN_len, w1, w2]
    refine ⟨by omega, by omega, _, _, .inr ⟨1 + v, a, by omega, by omega, h1, rfl, rfl⟩, ?_⟩
    have hf := hp_fin (s' := s.addV pl lv sn (1 + v) a) hcl (B' := B' ++ [⟨[i64 pl, i64 lv, SV.slc (ints sn) sn.length, i64 s.is.length], 107, 0, true⟩, ⟨[i64 pl, i64 (1 + v)], 70, 0, true⟩]) (L := L ++ _) (by rw [hB, List.append_assoc]) (r := i64 s.is.length) (fz_i64 _ _ _ _ _)
    simpa [Ms.addV, Mc.hp, Mc.D, Mc.L, Mc.M, Mc.V, Mc.N, Mc.I, rws_app, rws, Vw.cells, icN] using hf
end
end Go.Proofs.Ytbfeaikiiamhaaa.Rc

