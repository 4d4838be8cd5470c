/-
  Steps of the proof: contracts of functions and plain facts that the statement rests on.
-/
import Derived.Test.YtiikfkacbglblaaD18
set_option linter.all false
namespace Go.Proofs.Ytiikfkacbglblaa
open Go.Ab
/-- What is known of a game that is well formed. -/
structure Wg (g : Gm) : Prop where
  gd : Gd g
  wk : g.wk.1 = some g.ns.length
  mx : maxL g.wk.2.D ≤ 40
  se : g.setsE = 0
theorem nodesE_zero {g : Gm} : ∀ {l : List Nd}, nodesE g l = 0 → ∀ x ∈ l, x.err g = 0
  | [], _, x, hx => by simp at hx
  | y :: r, h, x, hx => by
    unfold nodesE at h
    by_cases hy : y.err g = 0
    · rw [if_pos hy] at h
      rcases List.mem_cons.1 hx with rfl | hx
      · exact hy
      · exact nodesE_zero h x hx
    · rw [if_neg hy] at h
      exact (hy h).elim
theorem wg_of {g : Gm} (h : g.formE = 0) : Wg g := by
  unfold Gm.formE at h
  by_cases h0 : g.err0 = 0
  · have h1 : ¬ g.err0 ≠ 0 := by simpa using h0
    rw [if_neg h1] at h
    unfold Gm.err0 at h0
    by_cases hr : g.rng
    · rw [if_pos hr] at h0; cases h0
    · rw [if_neg hr] at h0
      by_cases hn : nodesE g g.ns = 0
      · have hn' : ¬ nodesE g g.ns ≠ 0 := by simpa using hn
        rw [if_neg hn'] at h0
        by_cases hw : g.wk.1 = some g.ns.length
        · have hw' : ¬ g.wk.1 ≠ some g.ns.length := by simpa using hw
          rw [if_neg hw'] at h0
          by_cases hm : 40 < maxL g.wk.2.D
          · rw [if_pos hm] at h0; cases h0
          · unfold Gm.rng at hr
            exact ⟨⟨by omega, by omega, by omega, by omega, by omega, nodesE_zero hn⟩, hw, by omega, h⟩
        · have hw' : g.wk.1 ≠ some g.ns.length := hw
          rw [if_pos hw'] at h0; cases h0
      · have hn' : nodesE g g.ns ≠ 0 := hn
        rw [if_pos hn'] at h0; exact (hn h0).elim
  · have h1 : g.err0 ≠ 0 := h0
    rw [if_pos h1] at h
    exact (h0 h).elim
section
variable {H : List AO} {g : Gm}
set_option maxRecDepth 10000 in
theorem loop47 (hg : Gd g) {N : Nat} {K : XE → Env → List AO → Prop}
    (hexit : ∀ env M cs, Fam (H.length + 1) M g.sets cs → env.get 3 = .own H.length 0 g.is.length 1 0 → K (.exit 0) env (H ++ ⟨cs, 35, 0, true⟩ :: M)) :
    ∀ (n i : Nat) (env : Env) (M : List AO) (A : List (List Int)) (cs : List SV), i + n = g.ns.length → A.length = g.is.length → (∀ s (h : s < A.length), A[s].length ≤ i) → Fam (H.length + 1) M A cs → setsA (g.ns.drop i) i A = g.sets →
      env.get 3 = .own H.length 0 g.is.length 1 0 → env.get 17 = .slc (nds g.ns) g.ns.length → env.get 18 = i64 g.ns.length → env.get 19 = i64 i →
      LI Try.prog N drawB l47_0 env (H ++ ⟨cs, 35, 0, true⟩ :: M) K := by
  have hgn := hg.n
  intro n
  induction n with
  | zero =>
    intro i env M A cs hi hA hAl hF hS h3 h17 h18 h19
    refine li_go hm l47_0.eq_1 ?_
    have e : i = g.ns.length := by omega
    subst e
    rw [List.drop_length] at hS
    subst hS
    simp -implicitDefEqProofs [h18, h19]
    exact hexit _ _ _ hF (by simp [h3])
  | succ n ih =>
    intro i env M A cs hi hA hAl hF hS h3 h17 h18 h19
    refine li_go hm l47_0.eq_1 ?_
    have hlt : i < g.ns.length := by omega
    have hx : g.ns[i] ∈ g.ns := List.getElem_mem hlt
    have w1 : IntKind.i64.wrap ((i : Int) + 1) = ((i + 1 : Nat) : Int) := wrap_succ (by omega)
    rw [List.drop_eq_getElem_cons hlt, setsA] at hS
    by_cases hk : g.ns[i].k = 2
    · have hb := hg.inf hx hk
      have hs : g.ns[i].i.toNat < A.length := by omega
      have hcl := hF.len
      rw [if_pos hk, List.getD_eq_getElem?_getD, List.getElem?_eq_getElem hs, Option.getD_some] at hS
      have eset : ∀ v : SV, List.take g.ns[i].i.toNat cs ++ v :: List.drop (g.ns[i].i.toNat + 1) cs = cs.set g.ns[i].i.toNat v := fun v => by
        rw [List.set_eq_take_append_cons_drop, if_pos (by omega)]
      have hAl' : ∀ v : List Int, v.length ≤ i + 1 → ∀ s (h : s < (A.set g.ns[i].i.toNat v).length), (A.set g.ns[i].i.toNat v)[s].length ≤ i + 1 := fun v hv s h => by
        by_cases e : g.ns[i].i.toNat = s
        · subst e; simpa using hv
        · rw [List.getElem_set_ne e]
          have := hAl s (by simpa using h); omega
      rcases hF.at' _ hs with ⟨k1, k2⟩ | ⟨k1, p, k2, k3⟩
      · simp -implicitDefEqProofs [h3, h17, h18, h19, hlt, nds_at hlt, nds_min hlt, nds_ge hlt, hk, sl, k2]
        refine ⟨by omega, by omega, by omega, by omega, ?_⟩
        have hF' : ∀ x y : AO, Fam (H.length + 1) (M ++ [x, y, ⟨[i64 i], 3, 1, true⟩]) (A.set g.ns[i].i.toNat [(i : Int)]) (cs.set g.ns[i].i.toNat (.own (H.length + (M.length + 3)) 0 1 1 1)) := fun x y => by
          have := (hF.mono [x, y]).new (i := (i : Int)) hs k1
          rw [show H.length + 1 + (M ++ [x, y]).length = H.length + (M.length + 3) by simp; omega] at this
          simpa [ints] using this
        rw [k1, List.nil_append] at hS
        rw [eset, w1]
        refine ih (i + 1) _ _ _ _ (by omega) (by simp [hA]) (hAl' _ (by simp)) (hF' _ _) hS ?_ ?_ ?_ ?_
        · simp
        · simp
        · simp
        · simp
      · rw [show H.length + 1 + p = H.length + (p + 1) by omega] at k2
        have hp := getElem?_lt k3
        have hle := hAl _ hs
        simp -implicitDefEqProofs [h3, h17, h18, h19, hlt, nds_at hlt, nds_min hlt, nds_ge hlt, hk, sl, k2, setObj_old k3, objCells_set0, objCells_setk, objIs_old k3]
        refine ⟨by omega, by omega, by omega, by omega, by omega, by omega, ?_⟩
        have hF' : ∀ x y : AO, Fam (H.length + 1) (M.set p ⟨ints A[g.ns[i].i.toNat] ++ [i64 i], 3, A[g.ns[i].i.toNat].length + 1, true⟩ ++ [x, y]) (A.set g.ns[i].i.toNat (A[g.ns[i].i.toNat] ++ [(i : Int)]))
            (cs.set g.ns[i].i.toNat (.own (H.length + (p + 1)) 0 (A[g.ns[i].i.toNat].length + 1) 1 (A[g.ns[i].i.toNat].length + 1))) := fun x y => by
          rw [show H.length + (p + 1) = H.length + 1 + p by omega] at k2 ⊢
          have := (hF.grow (i := (i : Int)) hs k2 k3).mono [x, y]
          simpa [ints] using this
        rw [eset, w1]
        refine ih (i + 1) _ _ _ _ (by omega) (by simp [hA]) (hAl' _ (by simp; omega)) (hF' _ _) hS ?_ ?_ ?_ ?_
        · simp
        · simp
        · simp
        · simp
    · simp -implicitDefEqProofs [h3, h17, h18, h19, hlt, nds_at hlt, nds_min hlt, nds_ge hlt, hk, sl]
      rw [if_neg hk] at hS
      rw [w1]
      refine ih (i + 1) _ _ A cs (by omega) hA (fun s h => by have := hAl s h; omega) (hF.mono _) hS ?_ ?_ ?_ ?_
      · simp
      · simp
      · simp
      · simp
def Gm.setsV (g : Gm) : SV := .slc (g.sets.map slN) g.is.length
set_option maxRecDepth 10000 in
theorem ok47 (hg : Gd g) : Ok Try.prog 47 [g.wp] H (.ret g.setsV) H := by
  have hn := hg.n
  have hi := hg.i
  refine ok_fn hm Try.func47 c47 (by simp) fun hcl => ?_
  simp -implicitDefEqProofs [i47, r47, Gm.wp, sl]
  refine ⟨by omega, by omega, ?_⟩
  refine loop47 (g := g) hg (fun env M cs hF h3 => ?_) g.ns.length 0 _ [] (List.replicate g.is.length []) (List.replicate g.is.length nl) (by omega) (by simp) (by simp) (Fam.zero _ _ _) (by simp [Gm.sets]) (by simp) (by simp) (by simp) (by simp)
  simp -implicitDefEqProofs [h3]
  refine cv_fz 4 hcl rfl ?_
  have hl := hF.len
  rw [sets_len] at hl
  have := hF.fz (n := H.length) (k := 1) (d := 1) (F := (⟨cs, 35, 0, true⟩ : AO) :: M) rfl (fun p => by rw [show 1 + p = p + 1 by omega]; simp)
  simp [hl, this, Gm.setsV]
  exact List.take_of_length_le (by simp [sets_len])
theorem slNs_under (n : Nat) : ∀ l : List (List Int), SV.underL n (l.map slN) = true
  | [] => rfl
  | x :: r => by
    rw [List.map_cons, SV.underL, slNs_under n r, Bool.and_true]
    by_cases h : x = []
    · subst h; rfl
    · rw [slN_ne h]; simp
theorem setsV_under : g.setsV.under 0 = true := slNs_under 0 _
theorem ok53 {k : FuncId} {v : SV} (hv : v.under 0 = true) (hk : g.formE = 0 → ∀ H, Ok Try.prog k [g.wp] H (.ret v) H) : Ok Try.prog 53 [.agg g.cells, .fn (.func k) [] []] H (.ret (g.out nl v)) H := by
  refine ok_fn hm Try.func53 c53 (by simp) fun hcl => ?_
  simp -implicitDefEqProofs [i53, r53, Gm.cells]
  have hh := fun H => ok38 (H := H) (g := g)
  simp only [Gm.cells] at hh
  refine call_go (hh _) ?_
  by_cases h : g.formE = 0
  · rw [walked_ok h]
    simp -implicitDefEqProofs
    refine call_go (hk h _) ?_
    simp -implicitDefEqProofs
    refine cv_fz 2 hcl rfl ?_
    have : ∀ L, SV.fz H.length [] L 1 v = v := fun L => fz_under (SV.under_mono (Nat.zero_le _) v hv)
    simp [Gm.out, h, this]
  · obtain ⟨p, e, _⟩ := walked_err h
    rw [e]
    simp -implicitDefEqProofs [h]
    refine cv_fz 2 hcl rfl ?_
    simp [Gm.out, h]
theorem ok21 : Ok Try.prog 21 [.agg g.cells] H (.ret (g.out nl g.setsV)) H := by
  refine ok_fn hm Try.func21 c21 (by simp) fun hcl => ?_
  simp -implicitDefEqProofs [i21, r21, Gm.cells]
  have hh := fun H => ok53 (H := H) (g := g) (k := 47) (v := g.setsV) setsV_under (fun h H => ok47 (wg_of h).gd)
  simp only [Gm.cells] at hh
  refine call_go (hh _) ?_
  have hf : ∀ L, SV.fz H.length [] L 1 g.setsV = g.setsV := fun L => fz_under (SV.under_mono (Nat.zero_le _) _ setsV_under)
  unfold Gm.out
  by_cases h : g.formE = 0
  · simp -implicitDefEqProofs [h]
    exact cv_fz 2 hcl rfl (by simp [hf])
  · simp -implicitDefEqProofs [h]
    exact cv_fz 2 hcl rfl (by simp)
end
end Go.Proofs.Ytiikfkacbglblaa
