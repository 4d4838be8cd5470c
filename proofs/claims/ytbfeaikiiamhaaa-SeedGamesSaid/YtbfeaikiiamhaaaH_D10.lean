/-
  Steps of the proof: contracts of functions and plain facts that the statement rests on.
-/
import Derived.Test.YtbfeaikiiamhaaaH_D9
set_option linter.all false
namespace Go.Proofs.Ytbfeaikiiamhaaa.Rc
open Go.Ab
def slN (l : List Int) : SV := if l = [] then nl else sl l
/-- Rows of our own, one for each list that is not empty. -/
structure Fam (b : Nat) (L : List AO) (A : List (List Int)) (cs : List SV) : Prop where
  len : cs.length = A.length
  at' : ∀ s (h : s < A.length), (A[s] = [] ∧ cs[s]? = some nl) ∨ (A[s] ≠ [] ∧ ∃ p, cs[s]? = some (.own (b + p) 0 A[s].length 1 A[s].length) ∧ L[p]? = some ⟨ints A[s], 3, A[s].length, true⟩)
  inj : ∀ (s t p m n v w : Nat), s ≠ t → cs[s]? = some (.own (b + p) 0 m 1 v) → cs[t]? = some (.own (b + p) 0 n 1 w) → False
section
variable {b : Nat} {L L' : List AO} {A : List (List Int)} {cs : List SV} {s : Nat} {i : Int}
theorem Fam.zero (b : Nat) (L : List AO) (n : Nat) : Fam b L (List.replicate n []) (List.replicate n nl) := by
  refine ⟨by simp, fun s h => .inl ?_, fun s t p m n v w hst h1 h2 => ?_⟩
  · simp at h; simp [h]
  · rw [List.getElem?_replicate] at h1
    split at h1 <;> cases h1
theorem Fam.mono (h : Fam b L A cs) (L' : List AO) : Fam b (L ++ L') A cs := by
  refine ⟨h.len, fun s hs => ?_, h.inj⟩
  rcases h.at' s hs with h1 | ⟨h1, p, h2, h3⟩
  · exact .inl h1
  · exact .inr ⟨h1, p, h2, by rw [List.getElem?_append_left (getElem?_lt h3)]; exact h3⟩
theorem Fam.new (h : Fam b L A cs) (hs : s < A.length) (he : A[s] = []) : Fam b (L ++ [⟨ints [i], 3, 1, true⟩]) (A.set s [i]) (cs.set s (.own (b + L.length) 0 1 1 1)) := by
  have hl := h.len
  have hnew : ∀ t (n w : Nat), t < A.length → cs[t]? = some (.own (b + L.length) 0 n 1 w) → False := by
    intro t n w ht hc
    rcases h.at' t ht with ⟨_, h1⟩ | ⟨_, p, h2, h3⟩
    · rw [h1] at hc; cases hc
    · rw [h2] at hc
      have hp := getElem?_lt h3
      simp only [Option.some.injEq, SV.own.injEq] at hc
      omega
  refine ⟨by simp [hl], fun t ht => ?_, fun t u p m n v w htu h1 h2 => ?_⟩
  · by_cases e : s = t
    · subst e
      refine .inr ⟨by simp, L.length, ?_, by simp⟩
      rw [List.getElem?_set_self (by omega)]; simp
    · have ht' : t < A.length := by simpa using ht
      rw [List.getElem?_set_ne e]
      simp only [List.getElem_set_ne e]
      rcases h.at' t ht' with h1 | ⟨h1, p, h2, h3⟩
      · exact .inl h1
      · exact .inr ⟨h1, p, h2, by rw [List.getElem?_append_left (getElem?_lt h3)]; exact h3⟩
  · by_cases e : s = t
    · subst e
      rw [List.getElem?_set_self (by omega)] at h1
      rw [List.getElem?_set_ne htu] at h2
      have hu : u < A.length := by have := getElem?_lt h2; omega
      simp only [Option.some.injEq, SV.own.injEq] at h1
      have : p = L.length := by omega
      subst this
      exact hnew u _ _ hu h2
    · rw [List.getElem?_set_ne e] at h1
      by_cases e' : s = u
      · subst e'
        rw [List.getElem?_set_self (by omega)] at h2
        have ht : t < A.length := by have := getElem?_lt h1; omega
        simp only [Option.some.injEq, SV.own.injEq] at h2
        have : p = L.length := by omega
        subst this
        exact hnew t _ _ ht h1
      · rw [List.getElem?_set_ne e'] at h2
        exact h.inj t u p m n v w htu h1 h2
theorem Fam.grow (h : Fam b L A cs) (hs : s < A.length) {p : Nat} (hc : cs[s]? = some (.own (b + p) 0 A[s].length 1 A[s].length)) (hp : L[p]? = some ⟨ints A[s], 3, A[s].length, true⟩) :
    Fam b (L.set p ⟨ints (A[s] ++ [i]), 3, A[s].length + 1, true⟩) (A.set s (A[s] ++ [i])) (cs.set s (.own (b + p) 0 (A[s].length + 1) 1 (A[s].length + 1))) := by
  have hl := h.len
  have hpl := getElem?_lt hp
  refine ⟨by simp [hl], fun t ht => ?_, fun t u q m n v w htu h1 h2 => ?_⟩
  · by_cases e : s = t
    · subst e
      refine .inr ⟨by simp, p, ?_, ?_⟩
      · rw [List.getElem?_set_self (by omega)]; simp
      · rw [List.getElem?_set_self hpl]; simp
    · have ht' : t < A.length := by simpa using ht
      rw [List.getElem?_set_ne e]
      simp only [List.getElem_set_ne e]
      rcases h.at' t ht' with h1 | ⟨h1, q, h2, h3⟩
      · exact .inl h1
      · refine .inr ⟨h1, q, h2, ?_⟩
        rw [List.getElem?_set_ne (fun hqp => ?_)]; exact h3
        subst hqp
        exact h.inj s t p _ _ _ _ e hc h2
  · by_cases e : s = t
    · subst e
      rw [List.getElem?_set_self (by omega)] at h1
      rw [List.getElem?_set_ne htu] at h2
      simp only [Option.some.injEq, SV.own.injEq] at h1
      have : q = p := by omega
      subst this
      exact h.inj s u q _ _ _ _ htu hc h2
    · rw [List.getElem?_set_ne e] at h1
      by_cases e' : s = u
      · subst e'
        rw [List.getElem?_set_self (by omega)] at h2
        simp only [Option.some.injEq, SV.own.injEq] at h2
        have : q = p := by omega
        subst this
        exact h.inj s t q _ _ _ _ (fun h => e h) hc h1
      · rw [List.getElem?_set_ne e'] at h2
        exact h.inj t u q m n v w htu h1 h2
theorem Fam.fz (h : Fam b L A cs) {n k d : Nat} {F : List AO} (hb : b = n + k) (hF : ∀ p, F[k + p]? = L[p]?) : cs.map (SV.fz n [] F (d + 2)) = A.map slN := by
  apply List.ext_getElem?
  intro s
  rw [List.getElem?_map, List.getElem?_map]
  by_cases hs : s < A.length
  · rw [List.getElem?_eq_getElem hs]
    rcases h.at' s hs with ⟨h1, h2⟩ | ⟨h1, p, h2, h3⟩
    · rw [h2]; simp [slN, h1, nl]
    · rw [h2]
      have e : b + p = n + (k + p) := by omega
      simp only [Option.map_some, slN, if_neg h1, sl, e, fz_own, hF, h3, placeOf]
      simp
  · have h1 := h.len
    rw [List.getElem?_eq_none (by omega), List.getElem?_eq_none (by omega)]
    rfl
end
def setsA : List Nd → Nat → List (List Int) → List (List Int)
  | [], _, A => A
  | x :: r, o, A => setsA r (o + 1) (if x.k = 2 then A.set x.i.toNat (A.getD x.i.toNat [] ++ [(o : Int)]) else A)
def Gm.sets (g : Gm) : List (List Int) := setsA g.ns 0 (List.replicate g.is.length [])
section
variable {H : List AO} {g : Gm}
set_option maxRecDepth 10000 in
theorem loop41 (hg : Gd g) {N : Nat} {K : XE → Env → List AO → Prop}
    (hexit : ∀ env M cs, Fam (H.length + 2) M g.sets cs → env.get 3 = .own (H.length + 1) 0 g.is.length 1 0 → K (.exit 0) env (H ++ gbox g :: ⟨cs, 35, 0, true⟩ :: M)) :
    ∀ (n i : Nat) (env : Env) (M : List AO) (A : List (List Int)) (cs : List SV), i + n = g.ns.length → A.length = g.is.length → (∀ s (h : s < A.length), A[s].length ≤ i) → Fam (H.length + 2) M A cs → setsA (g.ns.drop i) i A = g.sets →
      env.get 1 = .ptr (.own H.length 0 0 0 0) 0 → env.get 3 = .own (H.length + 1) 0 g.is.length 1 0 → env.get 4 = i64 i →
      LI Try.prog N drawB l53_0 env (H ++ gbox g :: ⟨cs, 35, 0, true⟩ :: M) K := by
  have hgn := hg.n
  intro n
  induction n with
  | zero =>
    intro i env M A cs hi hA hAl hF hS h1 h3 h4
    refine li_go hm l53_0.eq_1 ?_
    have e : i = g.ns.length := by omega
    subst e
    rw [List.drop_length] at hS
    subst hS
    simp -implicitDefEqProofs [h1, h3, h4, gbox]
    exact hexit _ _ _ hF (by simp [h3])
  | succ n ih =>
    intro i env M A cs hi hA hAl hF hS h1 h3 h4
    refine li_go hm l53_0.eq_1 ?_
    have hlt : i < g.ns.length := by omega
    have hx : g.ns[i] ∈ g.ns := List.getElem_mem hlt
    have w1 : IntKind.i64.wrap ((i : Int) + 1) = ((i + 1 : Nat) : Int) := wrap_succ (by omega)
    rw [List.drop_eq_getElem_cons hlt, setsA] at hS
    by_cases hk : g.ns[i].k = 2
    · have hb := hg.inf hx hk
      have hs : g.ns[i].i.toNat < A.length := by omega
      have hcl := hF.len
      rw [if_pos hk, List.getD_eq_getElem?_getD, List.getElem?_eq_getElem hs, Option.getD_some] at hS
      have eset : ∀ v : SV, List.take g.ns[i].i.toNat cs ++ v :: List.drop (g.ns[i].i.toNat + 1) cs = cs.set g.ns[i].i.toNat v := fun v => by
        rw [List.set_eq_take_append_cons_drop, if_pos (by omega)]
      have hAl' : ∀ v : List Int, v.length ≤ i + 1 → ∀ s (h : s < (A.set g.ns[i].i.toNat v).length), (A.set g.ns[i].i.toNat v)[s].length ≤ i + 1 := fun v hv s h => by
        by_cases e : g.ns[i].i.toNat = s
        · subst e; simpa using hv
        · rw [List.getElem_set_ne e]
          have := hAl s (by simpa using h); omega
      rcases hF.at' _ hs with ⟨k1, k2⟩ | ⟨k1, p, k2, k3⟩
      · simp -implicitDefEqProofs [h1, h3, h4, gbox, hlt, nds_at hlt, nds_min hlt, nds_ge hlt, hk, sl, k2]
        refine ⟨by omega, by omega, by omega, by omega, ?_⟩
        have hF' : ∀ x y : AO, Fam (H.length + 2) (M ++ [x, y, ⟨[i64 i], 3, 1, true⟩]) (A.set g.ns[i].i.toNat [(i : Int)]) (cs.set g.ns[i].i.toNat (.own (H.length + (M.length + 4)) 0 1 1 1)) := fun x y => by
          have := (hF.mono [x, y]).new (i := (i : Int)) hs k1
          rw [show H.length + 2 + (M ++ [x, y]).length = H.length + (M.length + 4) by simp; omega] at this
          simpa [ints] using this
        rw [k1, List.nil_append] at hS
        rw [eset, w1]
        refine ih (i + 1) _ _ _ _ (by omega) (by simp [hA]) (hAl' _ (by simp)) (hF' _ _) hS ?_ ?_ ?_
        · simp
        · simp
        · simp
      · rw [show H.length + 2 + p = H.length + (p + 1 + 1) by omega] at k2
        have hp := getElem?_lt k3
        have hle := hAl _ hs
        simp -implicitDefEqProofs [h1, h3, h4, gbox, hlt, nds_at hlt, nds_min hlt, nds_ge hlt, hk, sl, k2, setObj_old k3, objCells_set0, objCells_setk, objIs_old k3]
        refine ⟨by omega, by omega, by omega, by omega, by omega, by omega, ?_⟩
        have hF' : ∀ x y : AO, Fam (H.length + 2) (M.set p ⟨ints A[g.ns[i].i.toNat] ++ [i64 i], 3, A[g.ns[i].i.toNat].length + 1, true⟩ ++ [x, y]) (A.set g.ns[i].i.toNat (A[g.ns[i].i.toNat] ++ [(i : Int)]))
            (cs.set g.ns[i].i.toNat (.own (H.length + (p + 1 + 1)) 0 (A[g.ns[i].i.toNat].length + 1) 1 (A[g.ns[i].i.toNat].length + 1))) := fun x y => by
          rw [show H.length + (p + 1 + 1) = H.length + 2 + p by omega] at k2 ⊢
          have := (hF.grow (i := (i : Int)) hs k2 k3).mono [x, y]
          simpa [ints] using this
        rw [eset, w1]
        refine ih (i + 1) _ _ _ _ (by omega) (by simp [hA]) (hAl' _ (by simp; omega)) (hF' _ _) hS ?_ ?_ ?_
        · simp
        · simp
        · simp
    · simp -implicitDefEqProofs [h1, h3, h4, gbox, hlt, nds_at hlt, nds_min hlt, nds_ge hlt, hk, sl]
      rw [if_neg hk] at hS
      rw [w1]
      refine ih (i + 1) _ _ A cs (by omega) hA (fun s h => by have := hAl s h; omega) (hF.mono _) hS ?_ ?_ ?_
      · simp
      · simp
      · simp
theorem setsA_len : ∀ (l : List Nd) (o : Nat) (A : List (List Int)), (setsA l o A).length = A.length
  | [], o, A => rfl
  | x :: r, o, A => by rw [setsA, setsA_len r]; split <;> simp
theorem sets_len : g.sets.length = g.is.length := by simp [Gm.sets, setsA_len]
set_option maxRecDepth 10000 in
theorem ok53 (hg : Gd g) : Ok Try.prog 53 [.agg g.cells] H (.ret (.slc (g.sets.map slN) g.is.length)) H := by
  have hn := hg.n
  have hi := hg.i
  refine ok_fn hm Try.func53 c53 (by simp) fun hcl => ?_
  simp -implicitDefEqProofs [i53, r53, Gm.cells]
  refine ⟨by omega, by omega, ?_⟩
  refine loop41 (g := g) hg (fun env M cs hF h3 => ?_) g.ns.length 0 _ [] (List.replicate g.is.length []) (List.replicate g.is.length nl) (by omega) (by simp) (by simp) (Fam.zero _ _ _) (by simp [Gm.sets]) (by simp) (by simp) (by simp)
  simp -implicitDefEqProofs [h3]
  refine cv_fz 4 hcl rfl ?_
  have hl := hF.len
  rw [sets_len] at hl
  have := hF.fz (n := H.length) (k := 2) (d := 1) (F := gbox g :: (⟨cs, 35, 0, true⟩ : AO) :: M) rfl (fun p => by rw [show 2 + p = p + 1 + 1 by omega]; simp)
  simp [hl, this]
  exact List.take_of_length_le (by simp [sets_len])
end
end Go.Proofs.Ytbfeaikiiamhaaa.Rc

