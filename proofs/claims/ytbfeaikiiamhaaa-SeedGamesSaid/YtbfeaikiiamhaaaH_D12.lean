/-
  Steps of the proof: contracts of functions and plain facts that the statement rests on.
-/
import Derived.Test.YtbfeaikiiamhaaaH_D11
set_option linter.all false
namespace Go.Proofs.Ytbfeaikiiamhaaa.Rc
open Go.Ab
theorem maxL_le {l : List Int} (h : 0 < l.length) {x : Int} : maxL l ≤ x ↔ ∀ i, i < l.length → l.getD i 0 ≤ x := by
  have hf : ∀ (r : List Int) (a : Int), r.foldl max a ≤ x ↔ a ≤ x ∧ ∀ y ∈ r, y ≤ x := by
    intro r
    induction r with
    | nil => intro a; simp
    | cons y r ih =>
      intro a
      rw [List.foldl_cons, ih]
      simp only [List.mem_cons, forall_eq_or_imp]
      constructor
      · rintro ⟨h1, h2⟩; exact ⟨by omega, by omega, h2⟩
      · rintro ⟨h1, h2, h3⟩; exact ⟨by omega, h3⟩
  cases l with
  | nil => simp at h
  | cons y r =>
    rw [maxL, List.tail_cons, List.headD_cons, hf]
    constructor
    · rintro ⟨h1, h2⟩ i hi
      cases i with
      | zero => simpa using h1
      | succ i =>
        have hi' : i < r.length := by simpa using hi
        have := h2 _ (List.getElem_mem hi')
        simpa [List.getD_eq_getElem?_getD, hi'] using this
    · intro h1
      refine ⟨by simpa using h1 0 (by simp), fun y hy => ?_⟩
      obtain ⟨k, hk, rfl⟩ := List.getElem_of_mem hy
      have := h1 (k + 1) (by simpa using hk)
      simpa [List.getD_eq_getElem?_getD, hk] using this
def MxR (D : List Int) (a b : Nat) (m m' : Int) : Prop := ∀ x, m' ≤ x ↔ (m ≤ x ∧ ∀ i, a ≤ i → i < b → D.getD i 0 ≤ x)
theorem kids_rel {n : Nat} {w : Nat → W3 → Option Nat × W3} {v : Nat → Int → Option Nat × Int} (hok : ∀ r s, s.ok n → (w r s).2.ok n ∧ ∀ r', (w r s).1 = some r' → r < r' ∧ r' ≤ n)
    (h : ∀ r s m, s.ok n → (w r s).1 = (v r m).1 ∧ ∀ r', (w r s).1 = some r' → (∀ i, i < r → (w r s).2.D.getD i 0 = s.D.getD i 0) ∧ MxR (w r s).2.D r r' m (v r m).2) :
    ∀ (l : List Int) (r : Nat) (s : W3) (m : Int), s.ok n → (kids w l r s).1 = (kidsR v l r m).1 ∧ ∀ r', (kids w l r s).1 = some r' → (∀ i, i < r → (kids w l r s).2.D.getD i 0 = s.D.getD i 0) ∧ MxR (kids w l r s).2.D r r' m (kidsR v l r m).2
  | [], r, s, m, hs => by
    refine ⟨rfl, fun r' h' => ⟨fun _ _ => rfl, fun x => ?_⟩⟩
    simp only [kids, Option.some.injEq] at h'
    subst h'
    simp only [kidsR]
    exact ⟨fun h => ⟨h, fun i h1 h2 => by omega⟩, fun h => h.1⟩
  | c :: cs, r, s, m, hs => by
    unfold kids kidsR
    by_cases hc : c = r
    · rw [if_pos hc, if_pos hc]
      obtain ⟨h1, h2⟩ := h r s m hs
      have h3 := hok r s hs
      cases hw : w r s with
      | mk o s1 =>
        cases hv : v r m with
        | mk o' m1 =>
          rw [hw, hv] at h1
          rw [hw] at h2 h3
          rw [hv] at h2
          simp only at h1
          subst h1
          cases o with
          | none => exact ⟨rfl, fun r' h' => by simp at h'⟩
          | some r1 =>
            obtain ⟨h4, h5⟩ := h2 r1 rfl
            have h6 := h3.2 r1 rfl
            obtain ⟨h7, h8⟩ := kids_rel hok h cs r1 s1 m1 h3.1
            refine ⟨h7, fun r' h' => ?_⟩
            obtain ⟨h9, h10⟩ := h8 r' h'
            refine ⟨fun i hi => ?_, fun x => ?_⟩
            · simp only
              rw [h9 i (by omega)]; exact h4 i hi
            · simp only
              rw [h10 x, h5 x]
              constructor
              · rintro ⟨⟨k1, k2⟩, k3⟩
                refine ⟨k1, fun i h1 h2 => ?_⟩
                by_cases hi : i < r1
                · rw [h9 i hi]; exact k2 i h1 hi
                · exact k3 i (by omega) h2
              · rintro ⟨k1, k2⟩
                have hr' : r1 ≤ r' := (kids_ok (m := 0) (fun r s _ hs => hok r s hs) cs r1 s1 (by omega) h6.2 h3.1).2 r' h' |>.1
                refine ⟨⟨k1, fun i h1 h2 => ?_⟩, fun i h1 h2 => k2 i (by omega) h2⟩
                have := k2 i h1 (by omega)
                rwa [h9 i h2] at this
    · rw [if_neg hc, if_neg hc]
      exact ⟨rfl, fun r' h' => by simp at h'⟩
theorem getD_set_ne {l : List Int} {i k : Nat} {v : Int} (h : i ≠ k) : (l.set k v).getD i 0 = l.getD i 0 := by
  rw [List.getD_eq_getElem?_getD, List.getD_eq_getElem?_getD, List.getElem?_set_ne (fun e => h e.symm)]
theorem getD_set_eq {l : List Int} {k : Nat} {v : Int} (h : k < l.length) : (l.set k v).getD k 0 = v := by
  rw [List.getD_eq_getElem?_getD, List.getElem?_set_self h]; rfl
theorem walk_rel {ns : List Nd} : ∀ (f : Nat) (par dep : Int) (k : Nat) (s : W3) (m : Int), s.ok ns.length →
    (walkS ns f par dep k s).1 = (walkR ns f dep k m).1 ∧ ∀ r, (walkS ns f par dep k s).1 = some r →
      ((∀ i, i < k → (walkS ns f par dep k s).2.D.getD i 0 = s.D.getD i 0) ∧ MxR (walkS ns f par dep k s).2.D k r m (walkR ns f dep k m).2) ∧ (walkS ns f par dep k s).2.D.getD k 0 = dep
  | 0, par, dep, k, s, m, hs => ⟨rfl, fun r h => by simp [walkS] at h⟩
  | f + 1, par, dep, k, s, m, hs => by
    unfold walkS walkR
    cases hk : ns[k]? with
    | none => exact ⟨rfl, fun r h => by simp at h⟩
    | some x =>
      have hlt := getElem?_lt hk
      have hs' : W3.ok ⟨s.P.set k par, s.D.set k dep, s.L⟩ ns.length := ⟨by simpa using hs.1, by simpa using hs.2.1, hs.2.2⟩
      have hr := kids_rel (n := ns.length) (w := walkS ns f k (dep + 1)) (v := walkR ns f (dep + 1)) (fun r s hs => walkS_ok f k (dep + 1) r s hs)
        (fun r s m hs => ⟨(walk_rel f k (dep + 1) r s m hs).1, fun r' h => ((walk_rel f k (dep + 1) r s m hs).2 r' h).1⟩) x.nx (k + 1) ⟨s.P.set k par, s.D.set k dep, s.L⟩ (max m dep) hs'
      have hk2 := kids_ok (n := ns.length) (w := walkS ns f k (dep + 1)) (m := 0) (fun r s _ hs => walkS_ok f k (dep + 1) r s hs) x.nx (k + 1) ⟨s.P.set k par, s.D.set k dep, s.L⟩ (by omega) (by omega) hs'
      simp only
      cases hh : kids (walkS ns f k (dep + 1)) x.nx (k + 1) ⟨s.P.set k par, s.D.set k dep, s.L⟩ with
      | mk o s1 =>
        cases hv : kidsR (walkR ns f (dep + 1)) x.nx (k + 1) (max m dep) with
        | mk o' m1 =>
          rw [hh, hv] at hr
          rw [hh] at hk2
          obtain ⟨h1, h2⟩ := hr
          simp only at h1
          subst h1
          cases o with
          | none => exact ⟨rfl, fun r' h' => by simp at h'⟩
          | some r1 =>
            obtain ⟨h3, h4⟩ := h2 r1 rfl
            have hr1 := hk2.2 r1 rfl
            have hD : s.D.length = ns.length := hs.2.1
            have hk0 : s1.D.getD k 0 = dep := by rw [h3 k (by omega)]; exact getD_set_eq (by omega)
            refine ⟨rfl, fun r h' => ?_⟩
            simp only [Option.some.injEq] at h'
            subst h'
            refine ⟨⟨fun i hi => ?_, fun x => ?_⟩, hk0⟩
            · show s1.D.getD i 0 = _
              rw [h3 i (by omega)]; exact getD_set_ne (by omega)
            · show m1 ≤ x ↔ _
              rw [h4 x]
              constructor
              · rintro ⟨k1, k2⟩
                refine ⟨by omega, fun i h1 h2 => ?_⟩
                by_cases e : i = k
                · subst e; show s1.D.getD i 0 ≤ x; rw [hk0]; omega
                · exact k2 i (by omega) h2
              · rintro ⟨k1, k2⟩
                have := k2 k (by omega) (by omega)
                have this : s1.D.getD k 0 ≤ x := this
                rw [hk0] at this
                exact ⟨by omega, fun i h1 h2 => k2 i (by omega) h2⟩
/-- The places of a set's nodes. -/
def occ (s : Nat) : List Nd → Nat → List Int
  | [], _ => []
  | x :: r, o => if x.k = 2 ∧ x.i.toNat = s then (o : Int) :: occ s r (o + 1) else occ s r (o + 1)
theorem occ_ge {s : Nat} : ∀ {l : List Nd} {o : Nat} {a : Int}, a ∈ occ s l o → 0 ≤ a
  | [], o, a, h => by simp [occ] at h
  | x :: r, o, a, h => by
    unfold occ at h
    split at h
    · rcases List.mem_cons.1 h with rfl | h
      · omega
      · exact occ_ge h
    · exact occ_ge h
theorem setsA_at {s : Nat} : ∀ (l : List Nd) (o : Nat) (A : List (List Int)), s < A.length → (setsA l o A).getD s [] = A.getD s [] ++ occ s l o
  | [], o, A, h => by simp [setsA, occ]
  | x :: r, o, A, h => by
    unfold setsA occ
    by_cases hk : x.k = 2
    · rw [if_pos hk, setsA_at r (o + 1) _ (by simpa using h)]
      by_cases e : x.i.toNat = s
      · rw [if_pos ⟨hk, e⟩, e]
        simp [List.getD_eq_getElem?_getD, h]
      · rw [if_neg (fun h => e h.2)]
        simp [List.getD_eq_getElem?_getD, List.getElem?_set_ne e]
    · rw [if_neg hk, if_neg (fun h => hk h.1), setsA_at r (o + 1) A h]
theorem fst1_at {s : Nat} {z : List Int} (hz : s < z.length) : ∀ (l : List Nd) (o : Nat), (fst1 l o z).getD s 0 = (match occ s l o with | [] => z.getD s 0 | a :: _ => a + 1)
  | [], o => by simp [fst1, occ]
  | x :: r, o => by
    unfold fst1 occ
    by_cases hk : x.k = 2
    · rw [if_pos hk]
      by_cases e : x.i.toNat = s
      · rw [if_pos ⟨hk, e⟩, e, getD_set_eq (by simpa using hz)]
      · rw [if_neg (fun h => e h.2), getD_set_ne (fun h => e h.symm)]
        exact fst1_at hz r (o + 1)
    · rw [if_neg hk, if_neg (fun h => hk h.1)]
      exact fst1_at hz r (o + 1)
section
variable {g : Gm}
theorem sets_at {s : Nat} (hs : s < g.is.length) : g.sets.getD s [] = occ s g.ns 0 := by
  rw [Gm.sets, setsA_at _ _ _ (by simpa using hs)]
  simp [List.getD_eq_getElem?_getD, hs]
theorem firsts_at {s : Nat} (hs : s < g.is.length) : g.firsts.getD s 0 = (match g.sets.getD s [] with | [] => 0 | a :: _ => a + 1) := by
  rw [Gm.firsts, fst1_at (by simpa using hs), sets_at hs]
  simp [List.getD_eq_getElem?_getD, hs]
theorem none_iff : (0 : Int) ∈ g.firsts ↔ [] ∈ g.sets := by
  have hl : g.sets.length = g.is.length := sets_len
  have hf : g.firsts.length = g.is.length := by simp [Gm.firsts]
  constructor
  · intro h
    obtain ⟨s, hs, e⟩ := List.getElem_of_mem h
    have := firsts_at (g := g) (s := s) (by omega)
    rw [List.getD_eq_getElem?_getD, List.getElem?_eq_getElem hs, Option.getD_some, e] at this
    have hs' : s < g.sets.length := by omega
    have h2 : g.sets.getD s [] = g.sets[s] := by rw [List.getD_eq_getElem?_getD, List.getElem?_eq_getElem hs']; rfl
    cases hc : g.sets.getD s [] with
    | nil => rw [← hc, h2]; exact List.getElem_mem hs'
    | cons a r =>
      rw [hc] at this
      have h3 : 0 ≤ a := occ_ge (s := s) (l := g.ns) (o := 0) (by rw [← sets_at (by omega), hc]; simp)
      simp only at this; omega
  · intro h
    obtain ⟨s, hs, e⟩ := List.getElem_of_mem h
    have := firsts_at (g := g) (s := s) (by omega)
    rw [List.getD_eq_getElem?_getD (l := g.sets), List.getElem?_eq_getElem hs, Option.getD_some, e] at this
    have hs' : s < g.firsts.length := by omega
    rw [List.getD_eq_getElem?_getD, List.getElem?_eq_getElem hs', Option.getD_some] at this
    simp only at this
    rw [← this]; exact List.getElem_mem hs'
theorem srt_same (h : ¬ [] ∈ g.sets) : Srt g.firsts ↔ SrtS g.sets := by
  have hl : g.sets.length = g.is.length := sets_len
  have hf : g.firsts.length = g.is.length := by simp [Gm.firsts]
  have hv : ∀ s, s < g.is.length → g.firsts.getD s 0 = (g.sets.getD s []).getD 0 0 + 1 := by
    intro s hs
    rw [firsts_at hs]
    cases hc : g.sets.getD s [] with
    | nil =>
      exfalso; apply h
      have hs' : s < g.sets.length := by omega
      rw [List.getD_eq_getElem?_getD, List.getElem?_eq_getElem hs', Option.getD_some] at hc
      rw [← hc]; exact List.getElem_mem hs'
    | cons a r => simp
  unfold Srt SrtS
  rw [hf, hl]
  constructor
  · intro h1 k hk
    have := h1 k hk
    rw [hv _ (by omega), hv _ (by omega)] at this
    omega
  · intro h1 k hk
    have := h1 k hk
    rw [hv _ (by omega), hv _ (by omega)]
    omega
theorem setsE_eq : g.setsE = g.setsR := by
  unfold Gm.setsE Gm.setsR
  by_cases hb : ∃ x ∈ g.ns, x.tyBad g
  · rw [if_pos hb, if_pos hb]
  · rw [if_neg hb, if_neg hb]
    by_cases h0 : [] ∈ g.sets
    · rw [if_pos h0, if_pos (none_iff.2 h0)]
    · rw [if_neg h0, if_neg (fun h => h0 (none_iff.1 h))]
      by_cases hs : SrtS g.sets
      · rw [if_pos hs, if_pos ((srt_same h0).2 hs)]
      · rw [if_neg hs, if_neg (fun h => hs ((srt_same h0).1 h))]
def Gm.formE (g : Gm) : Int := if g.err0 ≠ 0 then g.err0 else g.setsE
theorem w0_ok : g.w0.ok g.ns.length := ⟨by simp [Gm.w0], by simp [Gm.w0], by simp [Gm.w0]⟩
theorem wk_eq : g.wk.1 = g.wr.1 := (walk_rel (ns := g.ns) (g.ns.length + 1) (-1) 0 0 g.w0 0 w0_ok).1
theorem wk_max (h1 : 1 ≤ g.ns.length) (h : g.wk.1 = some g.ns.length) : maxL g.wk.2.D = g.wr.2 := by
  have hr := (walk_rel (ns := g.ns) (g.ns.length + 1) (-1) 0 0 g.w0 0 w0_ok).2 g.ns.length h
  have hok := (walkS_ok (ns := g.ns) (g.ns.length + 1) (-1) 0 0 g.w0 w0_ok).1
  have hD : g.wk.2.D.length = g.ns.length := hok.2.1
  have hx : ∀ x, maxL g.wk.2.D ≤ x ↔ g.wr.2 ≤ x := by
    intro x
    rw [maxL_le (by omega)]
    have := hr.1.2 x
    have h0 : g.wk.2.D.getD 0 0 = 0 := hr.2
    show _ ↔ (walkR g.ns (g.ns.length + 1) 0 0 0).2 ≤ x
    rw [this, hD]
    constructor
    · intro k
      have := k 0 (by omega)
      rw [h0] at this
      exact ⟨this, fun i _ hi => k i hi⟩
    · rintro ⟨_, k⟩ i hi
      exact k i (by omega) hi
  have := (hx (maxL g.wk.2.D)).1 (Int.le_refl _)
  have := (hx g.wr.2).2 (Int.le_refl _)
  omega
/-- THE TWO FORMS ARE ONE. -/
theorem form_eq : g.formE = g.formR := by
  have hR : g.rng = (((((g.pl < 1 ∨ 4 < g.pl) ∨ (g.ns.length : Int) < 1) ∨ 2000 < (g.ns.length : Int)) ∨ 200 < (g.is.length : Int))) := rfl
  unfold Gm.formE Gm.err0 Gm.formR
  by_cases hr : g.rng
  · simp [hr]
  · rw [if_neg hr, if_neg hr]
    by_cases hn : nodesE g g.ns = 0
    · have hn' : ¬ nodesE g g.ns ≠ 0 := by simpa using hn
      rw [if_neg hn', if_neg hn', wk_eq]
      by_cases hk : g.wr.1 = some g.ns.length
      · have hk' : ¬ g.wr.1 ≠ some g.ns.length := by simpa using hk
        rw [if_neg hk', if_neg hk']
        rw [hR] at hr
        rw [wk_max (by omega) (by rw [wk_eq]; exact hk), setsE_eq]
        by_cases hm : 40 < g.wr.2
        · simp [hm]
        · simp [hm]
      · simp [hk]
    · simp [hn]
end
end Go.Proofs.Ytbfeaikiiamhaaa.Rc

