/-
  Steps of the proof: contracts of functions and plain facts that the statement rests on.
-/
import Derived.Test.YtoghpbjllompaaaPart2
set_option linter.all false
/- R4 -/
namespace Go.Proofs.Ytoghpbjllompaaa.Rc
open Go.Ab
section
variable {A : List AO} {jr jg : Nat} {l : List Int} {pl : Int} {is : List (Int × Int)} {a m v : Nat}
theorem PanF.of' (h : FS A jr jg l pl is a m v) (e : Fl) (he : e.1 ≠ 0) (a' : Nat) (L : List AO) : PanF A jr jg l e (A.set jr (rfO l a' e) ++ L) := by
  have := PanF.of h e he a' L
  rwa [List.set_append_left _ _ (getElem?_lt h.r)] at this
def sW6 (A : List AO) (C : List SV) (v : Nat) (L : List AO) (T : AO) (ws : List Int) (M : List AO) : List AO :=
  TF A C v (L ++ ⟨[i64 1, i64 0, i64 0, nl, .own (A.length + (L.length + 3)) 0 ws.length 1 ws.length, nl], 74, 0, true⟩ :: T :: ⟨ints ws, 3, ws.length, true⟩ :: M)
def sP6 (A : List AO) (C : List SV) (v : Nat) (L : List AO) (T : AO) (ps : List Int) (M : List AO) : List AO :=
  TF A C v (L ++ ⟨[i64 3, i64 0, i64 0, nl, nl, .own (A.length + (L.length + 3)) 0 ps.length 1 ps.length], 74, 0, true⟩ :: T :: ⟨ints ps, 3, ps.length, true⟩ :: M)
/-- After a fault the loop ends at once. -/
theorem loopF60_0n {e : Fl} {H : List AO} {N : Nat} {K : XE → Env → List AO → Prop} (hr : H[jr]? = some (rfO l a e)) (he : e.1 ≠ 0) {n i : Int} {env : Env} (h0 : env.get 0 = rp jr) (h8 : env.get 8 = i64 n) (h9 : env.get 9 = i64 i)
    (hk : ∀ env, env.get 0 = rp jr → env.get 8 = i64 n → K (.exit 3) env H) : LI Try.prog N drawB l60_0 env H K := by
  refine li_go hm l60_0.eq_1 ?_
  have er : objCells H jr 0 = [.slc (byts l) l.length, i64 a, i64 e.1, i64 e.2] := objCells_of (o := rfO l a e) hr rfl
  simp only [rp] at h0
  by_cases hi : i < n
  · simp -implicitDefEqProofs [h0, h8, h9, er, he, hi]
    refine hk _ ?_ ?_ <;> simp [h0, h8, rp]
  · simp -implicitDefEqProofs [h0, h8, h9, er, he, hi]
    refine hk _ ?_ ?_ <;> simp [h0, h8, rp]
theorem loopF60_0 (hoct : Oct l) (hl : l.length ≤ 100000) {cnt : Nat} (hc : cnt ≤ 1000) {C : List SV} {L : List AO} {T : AO} {r : Except Fl (List Int × Nat)} {e1 e2 e6 e7 : SV} {N : Nat} {K : XE → Env → List AO → Prop} (he7 : e7 = rp (A.length + (L.length + 1)))
    (herr : ∀ e, r = .error e → ∀ env H', env.get 0 = rp jr → env.get 8 = i64 cnt → PanF A jr jg l e H' → K (.exit 3) env H')
    (hexit : ∀ ws a A', r = .ok (ws, a) → Same A A' jr jg → FS A' jr jg l pl is a m v → ∀ env M, env.get 0 = rp jr → env.get 1 = e1 → env.get 2 = e2 → env.get 6 = e6 → env.get 7 = e7 → env.get 8 = i64 cnt → K (.exit 3) env (sW6 A' C v L T ws M)) :
    ∀ (n i a : Nat) (ws : List Int) (A' : List AO) (env : Env) (M : List AO), i + n = cnt → a ≤ l.length → ws.length = i → Same A A' jr jg → FS A' jr jg l pl is a m v → preR ws (listR (numR l 1 1000) n a) = r →
      env.get 0 = rp jr → env.get 1 = e1 → env.get 2 = e2 → env.get 6 = e6 → env.get 7 = e7 → env.get 8 = i64 cnt → env.get 9 = i64 i → LI Try.prog N drawB l60_0 env (sW6 A' C v L T ws M) K := by
  intro n
  induction n with
  | zero =>
    intro i a ws A' env M hi ha hws hs hT hr h0 h1 h2 h6 h7 h8 h9
    refine li_go hm l60_0.eq_1 ?_
    have e : i = cnt := by omega
    subst e
    have hr : r = .ok (ws, a) := by rw [← hr]; simp [listR, preR]
    have er : objCells (sW6 A' C v L T ws M) jr 0 = [.slc (byts l) l.length, i64 a, i64 0, i64 0] := hT.erT _ _ _
    simp only [rp] at h0
    simp -implicitDefEqProofs [h0, h1, h2, h6, h7, h8, h9, er]
    refine hexit ws a A' hr hs hT _ M ?_ ?_ ?_ ?_ ?_ ?_ <;> simp [rp, h0, h1, h2, h6, h7, h8]
  | succ n ih =>
    intro i a ws A' env M hi ha hws hs hT hr h0 h1 h2 h6 h7 h8 h9
    refine li_go hm l60_0.eq_1 ?_
    have hlt : i < cnt := by omega
    have w1 : IntKind.i64.wrap ((i : Int) + 1) = ((i + 1 : Nat) : Int) := wrap_succ (by omega)
    have er : objCells (sW6 A' C v L T ws M) jr 0 = [.slc (byts l) l.length, i64 a, i64 0, i64 0] := hT.erT _ _ _
    rw [preR_step] at hr
    have hj := getElem?_lt hT.r
    have h59 := ok59 (H := sW6 A' C v L T ws M) (j := jr) (l := l) (a := a) (by unfold sW6 TF; rw [List.getElem?_append_left hj]; exact hT.r) hoct hl ha 1 1000
    have hnx := fun v a' h => numR_next (l := l) (lo := 1) (hi := 1000) (a := a) (a' := a') (n := v) h ha
    have hne := fun e => numR_err (l := l) (lo := 1) (hi := 1000) (a := a) (e := e)
    generalize numR l 1 1000 a = q at *
    have h7' : env.get 7 = .ptr (.own (A'.length + (L.length + 1)) 0 0 0 0) 0 := by rw [h7, he7, hs.len]; rfl
    simp only [rp] at h0 h59
    have e5 : objCells (sW6 A' C v L T ws M) (A'.length + (L.length + 1)) 0 = [i64 1, i64 0, i64 0, nl, .own (A'.length + (L.length + 3)) 0 ws.length 1 ws.length, nl] := by simp [sW6, TF]
    have hset : ∀ o, (sW6 A' C v L T ws M).set jr o = sW6 (A'.set jr o) C v L T ws M := fun o => by
      unfold sW6 TF; rw [List.set_append_left _ _ hj]; simp
    simp -implicitDefEqProofs [h0, h1, h2, h6, h7', h8, h9, hlt, er, e5]
    refine call_goP h59 ?_
    rintro o H' ho
    cases q with
    | error e =>
      obtain ⟨rfl, rfl⟩ := ho
      rw [hset]
      have hp : ∀ L', PanF A' jr jg l e (A'.set jr (rfO l a e) ++ L') := PanF.of' hT e (hne e rfl) a
      have hl2 : A'.length = (A'.set jr (rfO l a e)).length := by simp
      obtain ⟨A2, hA2⟩ : ∃ A2, A'.set jr (rfO l a e) = A2 := ⟨_, rfl⟩
      rw [hA2] at hp hl2 ⊢
      unfold sW6 TF
      simp -implicitDefEqProofs [h0, h1, h2, h6, h7', h8, h9, w1, hl2]
      repeat (refine And.intro (by omega) ?_)
      refine LI.cong (H' := A2 ++ _) rfl (loopF60_0n (jr := jr) (l := l) (a := (hp _).r.choose) (e := e) (hp _).r.choose_spec (hne e rfl) (n := cnt) (i := ((i + 1 : Nat) : Int)) ?_ ?_ ?_ (fun env k0 k8 => herr e hr.symm env _ k0 k8 ((hp _).same hs)))
      all_goals simp [rp, h0, h8]
    | ok p =>
      obtain ⟨w, a'⟩ := p
      obtain ⟨rfl, rfl⟩ := ho
      have hn := hnx w a' rfl
      rw [hset]
      simp only [] at hr
      have hT2 := hT.setr a'
      have hs2 : Same A (A'.set jr (rfO l a' (0, 0))) jr jg := hs.trans (Same.setr _)
      have hl2 : A'.length = (A'.set jr (rfO l a' (0, 0))).length := by simp
      obtain ⟨A2, hA2⟩ : ∃ A2, A'.set jr (rfO l a' (0, 0)) = A2 := ⟨_, rfl⟩
      rw [hA2] at hT2 hs2 hl2 ⊢
      unfold sW6 TF
      simp -implicitDefEqProofs [h0, h1, h2, h6, h7', h8, h9, w1, hl2]
      repeat (refine And.intro (by omega) ?_)
      refine LI.cong (H' := sW6 A2 C v L T (ws ++ [w]) (M ++ [⟨[i64 w], 3, 0, true⟩])) (by simp [sW6, TF, ints]) (ih (i + 1) a' (ws ++ [w]) A2 _ _ (by omega) hn.2 (by simp; omega) hs2 hT2 hr ?_ ?_ ?_ ?_ ?_ ?_ ?_)
      all_goals simp [rp, h0, h1, h2, h6, he7, hs2.len, h8]
theorem sgn_num (l : List Int) (a : Nat) : sgnR l (-1000000) 1000000 a = match numR l 0 2000000 a with
    | .error e => .error e
    | .ok (n, a') => .ok (unz n, a') := by
  unfold sgnR numR
  generalize getV l a = g
  obtain ⟨v, nx, c⟩ := g
  simp only []
  by_cases hc : c ≠ 0
  · rw [if_pos hc, if_pos hc]
  · rw [if_neg hc, if_neg hc]
    by_cases h1 : v < 0 ∨ 4611686018427387903 < v
    · rw [if_pos h1, if_pos (by omega)]
    · rw [if_neg h1]
      simp only []
      by_cases h2 : v < 0 ∨ 2000000 < v
      · rw [if_pos h2, if_pos]
        unfold unz; split <;> omega
      · rw [if_neg h2, if_neg]
        unfold unz; split <;> omega
structure FX (A : List AO) (jr jg : Nat) (l : List Int) (pl : Int) (is : List (Int × Int)) (a m v : Nat) (e : Fl) : Prop where
  r : A[jr]? = some (rfO l a e)
  g : A[jg]? = some (gO pl (.own A.length 0 m 6 v) is)
  ne : jr ≠ jg
theorem loopF60_1n {e : Fl} (he : e.1 ≠ 0) {C : List SV} {L : List AO} {T : AO} {cnt : Nat} (hc : cnt ≤ 4) (hpl : pl = cnt) {k8 : SV} {N : Nat} {K : XE → Env → List AO → Prop}
    (herr : ∀ env H', env.get 0 = rp jr → env.get 8 = k8 → PanF A jr jg l e H' → K (.exit 1) env H') (hX : FX A jr jg l pl is a m v e) :
    ∀ (n i : Nat) (ps : List Int) (env : Env) (M : List AO), i + n = cnt → ps.length = i → env.get 0 = rp jr → env.get 1 = rp jg → env.get 7 = rp (A.length + (L.length + 1)) → env.get 8 = k8 → env.get 10 = i64 i →
      LI Try.prog N drawB l60_1 env (sP6 A C v L T ps M) K := by
  have hj := getElem?_lt hX.r
  have hjg := getElem?_lt hX.g
  intro n
  induction n with
  | zero =>
    intro i ps env M hi hps h0 h1 h7 h8 h10
    refine li_go hm l60_1.eq_1 ?_
    have e0 : i = cnt := by omega
    subst e0
    have eg : objCells (sP6 A C v L T ps M) jg 0 = [i64 pl, .own A.length 0 m 6 v, .slc (infs is) is.length] := by
      unfold sP6 TF; rw [objCells_app _ hjg]; exact objCells_of (o := gO pl _ is) hX.g rfl
    have hgr : (sP6 A C v L T ps M)[jr]? = some (rfO l a e) := by unfold sP6 TF; rw [List.getElem?_append_left hj]; exact hX.r
    simp only [rp] at h0 h1 h7
    simp -implicitDefEqProofs [h0, h1, h7, h8, h10, eg, hpl]
    refine herr _ _ ?_ ?_ ⟨by simp [sP6, TF], fun i hi _ _ => by unfold sP6 TF; exact List.getElem?_append_left hi, ⟨a, hgr⟩, he⟩ <;> simp [rp, h0, h8]
  | succ n ih =>
    intro i ps env M hi hps h0 h1 h7 h8 h10
    refine li_go hm l60_1.eq_1 ?_
    have hlt : i < cnt := by omega
    have w1 : IntKind.i64.wrap ((i : Int) + 1) = ((i + 1 : Nat) : Int) := wrap_succ (by omega)
    have eg : objCells (sP6 A C v L T ps M) jg 0 = [i64 pl, .own A.length 0 m 6 v, .slc (infs is) is.length] := by
      unfold sP6 TF; rw [objCells_app _ hjg]; exact objCells_of (o := gO pl _ is) hX.g rfl
    have hgr : (sP6 A C v L T ps M)[jr]? = some (rfO l a e) := by unfold sP6 TF; rw [List.getElem?_append_left hj]; exact hX.r
    have h59 := ok59n hgr he 0 2000000
    have e5 : objCells (sP6 A C v L T ps M) (A.length + (L.length + 1)) 0 = [i64 3, i64 0, i64 0, nl, nl, .own (A.length + (L.length + 3)) 0 ps.length 1 ps.length] := by simp [sP6, TF]
    simp only [rp] at h0 h1 h7 h59
    simp -implicitDefEqProofs [h0, h1, h7, h8, h10, eg, hpl, hlt]
    refine call_go h59 ?_
    simp -implicitDefEqProofs [h0, h1, h7, h8, h10, e5]
    unfold sP6 TF
    have wz : IntKind.i64.wrap 0 = 0 := by decide
    simp -implicitDefEqProofs [w1, wz]
    repeat (refine And.intro (by omega) ?_)
    refine LI.cong (H' := sP6 A C v L T (ps ++ [0]) (M ++ [⟨[i64 0], 3, 0, true⟩])) (by simp [sP6, TF, ints]) (ih (i + 1) (ps ++ [0]) _ _ (by omega) (by simp; omega) ?_ ?_ ?_ ?_ ?_)
    all_goals simp [rp, h0, h1, h7, h8]
theorem loopF60_1 (hoct : Oct l) (hl : l.length ≤ 100000) {cnt : Nat} (hc : cnt ≤ 4) (hpl : pl = cnt) {C : List SV} {L : List AO} {T : AO} {r : Except Fl (List Int × Nat)} {e2 e6 e7 e8 : SV} {N : Nat} {K : XE → Env → List AO → Prop} (he7 : e7 = rp (A.length + (L.length + 1)))
    (herr : ∀ e, r = .error e → ∀ env H', env.get 0 = rp jr → env.get 8 = e8 → PanF A jr jg l e H' → K (.exit 1) env H')
    (hexit : ∀ ps a A', r = .ok (ps, a) → Same A A' jr jg → FS A' jr jg l pl is a m v → ∀ env M, env.get 0 = rp jr → env.get 1 = rp jg → env.get 2 = e2 → env.get 6 = e6 → env.get 7 = e7 → env.get 8 = e8 → K (.exit 1) env (sP6 A' C v L T ps M)) :
    ∀ (n i a : Nat) (ps : List Int) (A' : List AO) (env : Env) (M : List AO), i + n = cnt → a ≤ l.length → ps.length = i → Same A A' jr jg → FS A' jr jg l pl is a m v → preR ps (listR (sgnR l (-1000000) 1000000) n a) = r →
      env.get 0 = rp jr → env.get 1 = rp jg → env.get 2 = e2 → env.get 6 = e6 → env.get 7 = e7 → env.get 8 = e8 → env.get 10 = i64 i → LI Try.prog N drawB l60_1 env (sP6 A' C v L T ps M) K := by
  intro n
  induction n with
  | zero =>
    intro i a ps A' env M hi ha hps hs hT hr h0 h1 h2 h6 h7 h8 h10
    refine li_go hm l60_1.eq_1 ?_
    have e : i = cnt := by omega
    subst e
    have hr : r = .ok (ps, a) := by rw [← hr]; simp [listR, preR]
    have eg : objCells (sP6 A' C v L T ps M) jg 0 = [i64 pl, .own A'.length 0 m 6 v, .slc (infs is) is.length] := hT.eg _
    simp only [rp] at h0 h1
    simp -implicitDefEqProofs [h0, h1, h2, h6, h7, h8, h10, eg, hpl]
    refine hexit ps a A' hr hs hT _ M ?_ ?_ ?_ ?_ ?_ ?_ <;> simp [rp, h0, h1, h2, h6, h7, h8]
  | succ n ih =>
    intro i a ps A' env M hi ha hps hs hT hr h0 h1 h2 h6 h7 h8 h10
    refine li_go hm l60_1.eq_1 ?_
    have hlt : i < cnt := by omega
    have w1 : IntKind.i64.wrap ((i : Int) + 1) = ((i + 1 : Nat) : Int) := wrap_succ (by omega)
    have eg : objCells (sP6 A' C v L T ps M) jg 0 = [i64 pl, .own A'.length 0 m 6 v, .slc (infs is) is.length] := hT.eg _
    rw [preR_step, sgn_num] at hr
    have hj := getElem?_lt hT.r
    have h59 := ok59 (H := sP6 A' C v L T ps M) (j := jr) (l := l) (a := a) (by unfold sP6 TF; rw [List.getElem?_append_left hj]; exact hT.r) hoct hl ha 0 2000000
    have hnx := fun v a' h => numR_next (l := l) (lo := 0) (hi := 2000000) (a := a) (a' := a') (n := v) h ha
    have hrg := fun v a' h => numR_rng (l := l) (lo := 0) (hi := 2000000) (a := a) (a' := a') (n := v) h
    have hne := fun e => numR_err (l := l) (lo := 0) (hi := 2000000) (a := a) (e := e)
    generalize numR l 0 2000000 a = q at *
    have h7' : env.get 7 = .ptr (.own (A'.length + (L.length + 1)) 0 0 0 0) 0 := by rw [h7, he7, hs.len]; rfl
    simp only [rp] at h0 h1 h59
    have hset : ∀ o, (sP6 A' C v L T ps M).set jr o = sP6 (A'.set jr o) C v L T ps M := fun o => by
      unfold sP6 TF; rw [List.set_append_left _ _ hj]; simp
    have wz : IntKind.i64.wrap 0 = 0 := by decide
    simp -implicitDefEqProofs [h0, h1, h2, h6, h7', h8, h10, hlt, eg, hpl]
    refine call_goP h59 ?_
    rintro o H' ho
    cases q with
    | error e =>
      obtain ⟨rfl, rfl⟩ := ho
      rw [hset]
      have hX : FX (A'.set jr (rfO l a e)) jr jg l pl is a m v e := ⟨by rw [List.getElem?_set_self hj], by rw [List.getElem?_set_ne hT.ne]; simpa using hT.g, hT.ne⟩
      have hs2 : Same A (A'.set jr (rfO l a e)) jr jg := hs.trans (Same.setr _)
      have hl2 : A'.length = (A'.set jr (rfO l a e)).length := by simp
      obtain ⟨A2, hA2⟩ : ∃ A2, A'.set jr (rfO l a e) = A2 := ⟨_, rfl⟩
      rw [hA2] at hX hs2 hl2 ⊢
      unfold sP6 TF
      simp -implicitDefEqProofs [h0, h1, h2, h6, h7', h8, h10, w1, wz, hl2]
      repeat (refine And.intro (by omega) ?_)
      refine LI.cong (H' := sP6 A2 C v L T (ps ++ [0]) (M ++ [⟨[i64 0], 3, 0, true⟩])) (by simp [sP6, TF, ints]) (loopF60_1n (hne e rfl) hc hpl (k8 := e8) (fun env H' k0 k8 hp => herr e hr.symm env H' k0 k8 (hp.same hs2)) hX n (i + 1) (ps ++ [0]) _ _ (by omega) (by simp; omega) ?_ ?_ ?_ ?_ ?_)
      all_goals simp [rp, h0, h1, h8]
    | ok p =>
      obtain ⟨w, a'⟩ := p
      obtain ⟨rfl, rfl⟩ := ho
      have hn := hnx w a' rfl
      have hw := hrg w a' rfl
      rw [hset]
      simp only [] at hr
      have hT2 := hT.setr a'
      have hs2 : Same A (A'.set jr (rfO l a' (0, 0))) jr jg := hs.trans (Same.setr _)
      have hl2 : A'.length = (A'.set jr (rfO l a' (0, 0))).length := by simp
      obtain ⟨A2, hA2⟩ : ∃ A2, A'.set jr (rfO l a' (0, 0)) = A2 := ⟨_, rfl⟩
      rw [hA2] at hT2 hs2 hl2 ⊢
      unfold sP6 TF
      have t2 : w.tmod 2 = w % 2 := Int.tmod_eq_emod_of_nonneg hw.1
      by_cases hodd : w % 2 = 1
      · have eu : unz w = -(w / 2) - 1 := if_pos hodd
        have v1 : IntKind.i64.wrap (-w) = -w := wrap_id (by omega) (by omega)
        have v2 : IntKind.i64.wrap (-w - 1) = -w - 1 := wrap_id (by omega) (by omega)
        have t1 : (-w - 1).tdiv 2 = -(w / 2) - 1 := by
          rw [show -w - 1 = -(w + 1) by omega, Int.neg_tdiv, Int.tdiv_eq_ediv_of_nonneg (by omega)]; omega
        have v3 : IntKind.i64.wrap (-(w / 2) - 1) = -(w / 2) - 1 := wrap_id (by omega) (by omega)
        rw [eu] at hr
        simp -implicitDefEqProofs [h0, h1, h2, h6, h7', h8, h10, w1, hl2, t1, t2, v1, v2, v3, hodd]
        repeat (refine And.intro (by omega) ?_)
        refine LI.cong (H' := sP6 A2 C v L T (ps ++ [-(w / 2) - 1]) (M ++ [⟨[i64 (-(w / 2) - 1)], 3, 0, true⟩])) (by simp [sP6, TF, ints]) (ih (i + 1) a' (ps ++ [-(w / 2) - 1]) A2 _ _ (by omega) hn.2 (by simp; omega) hs2 hT2 hr ?_ ?_ ?_ ?_ ?_ ?_ ?_)
        all_goals simp [rp, h0, h1, h2, h6, he7, hs2.len, h8]
      · have eu : unz w = w / 2 := if_neg hodd
        have t1 : w.tdiv 2 = w / 2 := Int.tdiv_eq_ediv_of_nonneg hw.1
        have v3 : IntKind.i64.wrap (w / 2) = w / 2 := wrap_id (by omega) (by omega)
        rw [eu] at hr
        simp -implicitDefEqProofs [h0, h1, h2, h6, h7', h8, h10, w1, hl2, t1, t2, v3, hodd]
        repeat (refine And.intro (by omega) ?_)
        refine LI.cong (H' := sP6 A2 C v L T (ps ++ [w / 2]) (M ++ [⟨[i64 (w / 2)], 3, 0, true⟩])) (by simp [sP6, TF, ints]) (ih (i + 1) a' (ps ++ [w / 2]) A2 _ _ (by omega) hn.2 (by simp; omega) hs2 hT2 hr ?_ ?_ ?_ ?_ ?_ ?_ ?_)
        all_goals simp [rp, h0, h1, h2, h6, he7, hs2.len, h8]
end
end Go.Proofs.Ytoghpbjllompaaa.Rc

/- R5a -/
namespace Go.Proofs.Ytoghpbjllompaaa.Rc
open Go.Ab
def icTl : Nat → IC → IC
  | 0, a => a
  | k + 1, .seq _ b => icTl k b
  | _, a => a
section
variable {A A' : List AO} {jr jg : Nat} {l : List Int} {pl : Int} {is : List (Int × Int)} {C C' P : List SV} {v v' a m mm : Nat} {L B M : List AO}
theorem TF_len (A : List AO) (C : List SV) (v : Nat) (L : List AO) : (TF A C v L).length = A.length + (L.length + 1) := by simp [TF]
theorem TF_hu (hcl : closed (TF A C v L)) (hS : Same A A' jr jg) (hT : FS A' jr jg l pl is a m v') :
    ∀ (i : Nat) (o : AO), i ≠ A'.length → (TF A' C' v' L)[i]? = some o → ∀ s ∈ o.cells, s.under (TF A' C' v' L).length = true := by
  intro i o hi ho s hs
  rw [closed_iff] at hcl
  have hlen : (TF A C v L).length = (TF A' C' v' L).length := by rw [TF_len, TF_len, hS.len]
  rw [hlen] at hcl
  by_cases h1 : i < A'.length
  · unfold TF at ho
    rw [List.getElem?_append_left h1] at ho
    by_cases h2 : i = jr
    · subst h2
      rw [hT.r] at ho; cases ho
      simp only [rfO, List.mem_cons, List.not_mem_nil, or_false] at hs
      rcases hs with rfl | rfl | rfl | rfl <;> simp
    · by_cases h3 : i = jg
      · subst h3
        rw [hT.g] at ho; cases ho
        simp only [gO, List.mem_cons, List.not_mem_nil, or_false] at hs
        rcases hs with rfl | rfl | rfl
        · simp
        · rw [TF_len]; simp [SV.under]
        · simp [infs_under]
      · rw [hS.at_ i h2 h3] at ho
        refine cl_get hcl (i := i) ?_ s hs
        unfold TF; rw [List.getElem?_append_left (by rw [← hS.len]; exact h1)]; exact ho
  · refine cl_get hcl (i := i) ?_ s hs
    unfold TF at ho ⊢
    rw [List.getElem?_append_right (by omega)] at ho
    rw [List.getElem?_append_right (by rw [← hS.len]; omega), ← hS.len]
    obtain ⟨k, hk⟩ : ∃ k, i = A'.length + k := ⟨i - A'.length, by omega⟩
    subst hk
    rw [Nat.add_sub_cancel_left] at ho ⊢
    rcases k with _ | k
    · exact absurd rfl hi
    · exact ho
/-- The row of nodes, node m just written. -/
def Cy (C : List SV) (x : Nd) (wv pv q : SV) (sub : List Nd) : List SV := C ++ i64 x.k :: i64 x.p :: i64 x.i :: q :: wv :: pv :: nds sub
theorem TF_cv {x : Nd} {wv pv : SV} {nx : List Int} {sub : List Nd} (hC : C.length = mm * 6) (hCo : cellsOk C) (hcl : closed (TF A C v L)) (hS : Same A A' jr jg) (hT : FS A' jr jg l pl is a m v') {T7 : AO} (hw : ∀ R, SV.fz (A.length + (L.length + 1)) [] (T7 :: (B ++ R)) 3 wv = sl x.ws) (hpv : ∀ R, SV.fz (A.length + (L.length + 1)) [] (T7 :: (B ++ R)) 3 pv = sl x.ps) :
    Cv (A.length + (L.length + 1)) (.tup []) (TF A' (Cy C x wv pv (.own (A'.length + (L.length + (B.length + 2))) 0 nx.length 1 nx.length) sub) v' (L ++ T7 :: (B ++ ⟨ints nx, 3, nx.length, true⟩ :: M))) (.tup []) (TF A' (C ++ nds ({ x with nx := nx } :: sub)) v' L) := by
  have hCu : ∀ s ∈ C, s.under (A'.length + (L.length + 1)) = true := by
    have h := closed_iff.1 hcl
    rw [TF_len, ← hS.len] at h
    exact fun s hs => cl_get h (i := A.length) (o := ⟨C, 74, v, true⟩) (by simp [TF]) s hs
  have hmap : (Cy C x wv pv (.own (A'.length + (L.length + (B.length + 2))) 0 nx.length 1 nx.length) sub).map (SV.fz (A'.length + (L.length + 1)) [] (T7 :: (B ++ ⟨ints nx, 3, nx.length, true⟩ :: M)) 3) = C ++ nds ({ x with nx := nx } :: sub) := by
    have e1 : C.map (SV.fz (A'.length + (L.length + 1)) [] (T7 :: (B ++ ⟨ints nx, 3, nx.length, true⟩ :: M)) 3) = C := by
      conv => rhs; rw [← List.map_id C]
      exact List.map_congr_left fun s hs => fz_under (hCu s hs)
    have e2 : A'.length + (L.length + (B.length + 2)) = A'.length + (L.length + 1) + (B.length + 1) := by omega
    have e3 : (T7 :: (B ++ (⟨ints nx, 3, nx.length, true⟩ : AO) :: M))[B.length + 1]? = some ⟨ints nx, 3, nx.length, true⟩ := by
      rw [List.getElem?_cons_succ, get_app0]; rfl
    have e4 : SV.fz (A'.length + (L.length + 1)) [] (T7 :: (B ++ ⟨ints nx, 3, nx.length, true⟩ :: M)) 3 (.own (A'.length + (L.length + 1) + (B.length + 1)) 0 nx.length 1 nx.length) = sl nx := by
      rw [fz_own, e3]
      simp [placeOf, sl]
    rw [← hS.len] at hw hpv
    simp only [Cy, List.map_append, e1, List.map_cons, e2, nds, Nd.cells, e4, hw, hpv]
    simp [sl]
  have hres : (TF A' (C ++ nds ({ x with nx := nx } :: sub)) v' L) = (TF A' (Cy C x wv pv (.own (A'.length + (L.length + (B.length + 2))) 0 nx.length 1 nx.length) sub) v' L).set A'.length ⟨C ++ nds ({ x with nx := nx } :: sub), 74, v', true⟩ := by
    simp [TF]
  have hlen := TF_len A' (Cy C x wv pv (.own (A'.length + (L.length + (B.length + 2))) 0 nx.length 1 nx.length) sub) v' L
  have hcok : cellsOk (C ++ nds ({ x with nx := nx } :: sub)) := by
    intro s hs
    rcases List.mem_append.1 hs with hs | hs
    · exact hCo s hs
    · exact nds_cell' _ s hs
  have key := cv_noneM (n0 := A.length + (L.length + 1)) (Hx := TF A' (Cy C x wv pv (.own (A'.length + (L.length + (B.length + 2))) 0 nx.length 1 nx.length) sub) v' (L ++ T7 :: (B ++ ⟨ints nx, 3, nx.length, true⟩ :: M))) (r := .tup []) 3
    (H0 := TF A' (Cy C x wv pv (.own (A'.length + (L.length + (B.length + 2))) 0 nx.length 1 nx.length) sub) v' L) (L := T7 :: (B ++ ⟨ints nx, 3, nx.length, true⟩ :: M)) (by simp [TF]) (by rw [hlen, hS.len]; exact Nat.le_refl _)
    (Refz.one (j := A'.length) (o := ⟨Cy C x wv pv (.own (A'.length + (L.length + (B.length + 2))) 0 nx.length 1 nx.length) sub, 74, v', true⟩) (TF_hu hcl hS hT) (by simp [TF]) rfl (by rw [hlen]; simp only [hmap]; exact hcok))
  rw [hlen] at key
  simp only [hmap] at key
  rw [hres]
  simpa using key
theorem fin60e {e : Fl} {H' : List AO} {env : Env} {n0 : Nat} (hp : PanF A jr jg l e H') (h0 : env.get 0 = rp jr) : X Try.prog Try.f60.ntmps drawB (icTl 9 i60) env H' (FinP n0 r60 (FrP A jr jg l pl is m C L (.error e))) := by
  obtain ⟨a1, hra⟩ := hp.r
  have er : objCells H' jr 0 = [.slc (byts l) l.length, i64 a1, i64 e.1, i64 e.2] := objCells_of (o := rfO l a1 e) hra rfl
  have hne := hp.ne
  simp only [rp] at h0
  simp -implicitDefEqProofs [icTl, i60, r60, h0, er, hne]
  exact ⟨_, _, ⟨rfl, hp⟩, cv_id⟩
theorem fin60r {x : Nd} {wv pv : SV} {nx : List Int} {sub : List Nd} {env : Env} (hC : C.length = mm * 6) (hP : P.length = 6) (hCo : cellsOk C) (hcl : closed (TF A C v L)) (hS : Same A A' jr jg) (hT : FS A' jr jg l pl is a (mm + 1 + sub.length) v')
    (h0 : env.get 0 = rp jr) (h1 : env.get 1 = rp jg) (h6 : env.get 6 = i64 mm) (h7 : env.get 7 = rp (A'.length + (L.length + 1))) (hwc : wv.isCell = true) (hpc : pv.isCell = true)
    (hw : ∀ T7 R, SV.fz (A.length + (L.length + 1)) [] (T7 :: (B ++ R)) 3 wv = sl x.ws) (hpv : ∀ T7 R, SV.fz (A.length + (L.length + 1)) [] (T7 :: (B ++ R)) 3 pv = sl x.ps) :
    X Try.prog Try.f60.ntmps drawB (icTl 9 i60) env (TF A' (C ++ P ++ nds sub) v' (L ++ t7O x wv pv (.own (A'.length + (L.length + (B.length + 2))) 0 nx.length 1 nx.length) :: (B ++ ⟨ints nx, 3, nx.length, true⟩ :: M)))
      (FinP (TF A C v L).length r60 (FrP A jr jg l pl is mm C L (.ok ({ x with nx := nx } :: sub, a)))) := by
  simp only [rp] at h0 h1 h7
  unfold TF
  simp -implicitDefEqProofs [icTl, i60, r60, h0, h1, h6, h7, hT.eg, hT.er, t7O]
  have etk : List.take (mm * 6) (C ++ (P ++ nds sub)) = C := List.take_left' hC
  have edr : List.drop (mm * 6 + 6) (C ++ (P ++ nds sub)) = nds sub := by
    rw [← List.append_assoc]; exact List.drop_left' (by simp [hC, hP])
  rw [etk, edr]
  refine And.intro (by omega) (And.intro ⟨hwc, hpc⟩ (And.intro (by omega) ?_))
  refine ⟨_, _, ⟨rfl, A', v', hS, ?_, rfl⟩, TF_cv (x := x) (T7 := t7O x wv pv (.own (A'.length + (L.length + (B.length + 2))) 0 nx.length 1 nx.length)) (B := B) (M := M) hC hCo hcl hS hT (hw _) (hpv _)⟩
  have e : mm + ({ x with nx := nx } :: sub : List Nd).length = mm + 1 + sub.length := by simp only [List.length_cons]; omega
  rw [e]; exact hT
end
end Go.Proofs.Ytoghpbjllompaaa.Rc

/- R5b -/
namespace Go.Proofs.Ytoghpbjllompaaa.Rc
open Go.Ab
section
variable {A A4 : List AO} {jr jg : Nat} {l : List Int} {pl : Int} {is : List (Int × Int)} {C P : List SV} {v v4 a4 m : Nat} {L B : List AO}
theorem fz_at {n k j off len sz ver d : Nat} {Lx : List AO} {o : AO} (hj : j = n + k) (ho : Lx[k]? = some o) (hl : o.live = true) (hv : o.ver = ver) (hle : off + len * sz ≤ o.cells.length) :
    SV.fz n [] Lx (d + 1) (.own j off len sz ver) = .slc (((o.cells.drop off).take (len * sz)).map (SV.fz n [] Lx d)) len := by
  subst hj
  rw [fz_own, ho]
  simp [placeOf, hl, hv, hle]
theorem rest60 {f dep cn : Nat} {x : Nd} {wv pv : SV} (hC : C.length = m * 6) (hP : P.length = 6) (hCo : cellsOk C) (hPo : cellsOk P) (hm2 : m < 2000) (hcn : cn ≤ 60) (hdep : dep ≤ 40) (hkb : ∀ p ∈ is, 0 ≤ p.2 ∧ p.2 ≤ 60) (hcl : closed (TF A C v L))
    (hrec : ∀ (m a v : Nat) (A' : List AO) (C' : List SV) (L' : List AO), m ≤ 2000 → a ≤ l.length → C'.length = m * 6 → cellsOk C' → FS A' jr jg l pl is a m v →
      OkP Try.prog 60 [rp jr, rp jg, i64 ((dep + 1 : Nat) : Int)] (TF A' C' v L') (FrP A' jr jg l pl is m C' L' (treeR pl is l f (dep + 1) m a)))
    (ha : a4 ≤ l.length) (hS : Same A A4 jr jg) (hT : FS A4 jr jg l pl is a4 (m + 1) v4) (hwc : wv.isCell = true) (hpc : pv.isCell = true) (hxn : x.nx = [])
    (hw : ∀ T7 R, SV.fz (A.length + (L.length + 1)) [] (T7 :: (B ++ R)) 3 wv = sl x.ws) (hpv : ∀ T7 R, SV.fz (A.length + (L.length + 1)) [] (T7 :: (B ++ R)) 3 pv = sl x.ps)
    {K : XE → Env → List AO → Prop}
    (hK : ∀ env H', X Try.prog Try.f60.ntmps drawB (icTl 9 i60) env H' (FinP (A.length + (L.length + 1)) r60 (FrP A jr jg l pl is m C L (match kidsT (treeR pl is l f (dep + 1)) cn (m + 1) a4 with | .error e => .error e | .ok (nx, sub, a2) => .ok ({ x with nx := nx } :: sub, a2)))) → K (.exit 5) env H')
    {env : Env} (h0 : env.get 0 = rp jr) (h1 : env.get 1 = rp jg) (h2 : env.get 2 = i64 dep) (h6 : env.get 6 = i64 m) (h7 : env.get 7 = rp (A4.length + (L.length + 1))) (h8 : env.get 8 = i64 cn) (h12 : env.get 12 = i64 0) :
    LI Try.prog Try.f60.ntmps drawB l60_2 env (TF A4 (C ++ P) v4 (L ++ ⟨[i64 x.k, i64 x.p, i64 x.i, nl, wv, pv], 74, 0, true⟩ :: B)) K := by
  obtain ⟨q, hq⟩ : ∃ q, kidsT (treeR pl is l f (dep + 1)) cn (m + 1) a4 = q := ⟨_, rfl⟩
  rw [hq] at hK
  refine LI.tell (Tell.own0 (j := A4.length + (L.length + 1)) (p := 3) (o := ⟨[i64 x.k, i64 x.p, i64 x.i, nl, wv, pv], 74, 0, true⟩) (by simp [TF]) rfl rfl 3 1)
    (LI.cong (H' := TF A4 (C ++ P ++ nds []) v4 (L ++ t7O x wv pv (.own (A4.length + (L.length + (B.length + 2))) 0 ([] : List Int).length 1 ([] : List Int).length) :: (B ++ ⟨ints [], 3, ([] : List Int).length, true⟩ :: []))) (by simp [TF, t7O, set_app0, ints, nds])
      (loopF60_2 (A := A) (mm := m) (kk := cn) (f := f) (dep := dep) (r := q) hC hP (fun s hs => by
        rcases List.mem_append.1 hs with hs | hs
        · exact hCo s hs
        · exact hPo s hs) hm2 hcn hdep hkb hrec (fun e he env H' k0 hp => ?_) (fun nx sub a A' v' M he hS' hT' env k0 k1 k6 k7 => ?_) cn 0 a4 v4 [] [] A4 _ [] (by omega) rfl (by simp only [List.length_nil]; omega) ha hS hT ?_ h0 h1 h2 h6 h7 h8 h12))
  · subst he
    exact hK _ _ (fin60e hp k0)
  · subst he
    refine hK _ _ ?_
    rw [← TF_len A C v L]
    exact fin60r hC hP hCo hcl hS' hT' k0 k1 k6 k7 hwc hpc hw hpv
  · simp only [List.length_nil, Nat.add_zero, hq]
    cases q with
    | error e => rfl
    | ok z => obtain ⟨z1, z2, z3⟩ := z; simp
end
end Go.Proofs.Ytoghpbjllompaaa.Rc

/- R5 -/
namespace Go.Proofs.Ytoghpbjllompaaa.Rc
open Go.Ab
/-- A keep behind the k-th step. -/
def icKp (ks : List Nat) : Nat → IC → IC
  | k, .keep ls a => .keep ls (icKp ks k a)
  | 0, a => .keep ks a
  | k + 1, .seq a b => .seq a (icKp ks k b)
  | _, a => a
def i60k : IC := icKp [0, 1, 2, 6, 7] 6 (icKp [0, 1, 2] 3 i60)
theorem c60k : chkF Try.prog drawB Try.f60 i60k r60 = true := by kernel_rfl
section
variable {jr jg : Nat} {l : List Int} {pl : Int} {is : List (Int × Int)}
theorem ok60 (hoct : Oct l) (hl : l.length ≤ 100000) {pn : Nat} (hpn : pl = pn) (hpl : pn ≤ 4) (his : is.length ≤ 200) (hkb : ∀ p ∈ is, 0 ≤ p.2 ∧ p.2 ≤ 60) :
    ∀ (f dep m a v : Nat) (A : List AO) (C : List SV) (L : List AO), dep + f = 42 → m ≤ 2000 → a ≤ l.length → C.length = m * 6 → cellsOk C → FS A jr jg l pl is a m v →
      OkP Try.prog 60 [rp jr, rp jg, i64 dep] (TF A C v L) (FrP A jr jg l pl is m C L (treeR pl is l f dep m a)) := by
  intro f
  induction f with
  | zero =>
    intro dep m a v A C L hf hm2 ha hC hCo hT
    have hj := getElem?_lt hT.r
    have hjg := getElem?_lt hT.g
    refine okP_fn hm Try.func60 c60k (by simp [rp, SV.under, TF] <;> omega) fun hcl => ?_
    have hdep : 40 < (dep : Int) := by omega
    have h61 := ok61 (H := TF A C v L) (j := jr) (l := l) (a := a) (by unfold TF; rw [List.getElem?_append_left hj]; exact hT.r) (5, (a : Int))
    have hp : PanF A jr jg l (5, (a : Int)) ((TF A C v L).set jr (rfO l a (5, a))) := PanF.of hT _ (by simp) a _
    by_cases h2 : m = 2000
    · subst h2
      simp -implicitDefEqProofs [i60k, icKp, i60, r60, TF, rp, hT.eg, hT.er, pickI]
      refine call_go (by simpa [rp, TF] using h61) ?_
      simp -implicitDefEqProofs
      exact ⟨_, _, ⟨rfl, hp⟩, cv_idq (by simp [TF])⟩
    · have h2' : ¬ (m : Int) = 2000 := by omega
      simp -implicitDefEqProofs [i60k, icKp, i60, r60, TF, rp, hT.eg, hT.er, pickI, hdep, h2, h2']
      refine call_go (by simpa [rp, TF] using h61) ?_
      simp -implicitDefEqProofs
      exact ⟨_, _, ⟨rfl, hp⟩, cv_idq (by simp [TF])⟩
  | succ f ih =>
    intro dep m a v A C L hf hm2 ha hC hCo hT
    have hj := getElem?_lt hT.r
    have hjg := getElem?_lt hT.g
    refine okP_fn hm Try.func60 c60k (by simp [rp, SV.under, TF] <;> omega) fun hcl => ?_
    have hcl' := hcl
    have h61 := fun c => ok61 (H := TF A C v L) (j := jr) (l := l) (a := a) (by unfold TF; rw [List.getElem?_append_left hj]; exact hT.r) (c, (a : Int))
    have hp : ∀ c : Int, c ≠ 0 → PanF A jr jg l (c, (a : Int)) ((TF A C v L).set jr (rfO l a (c, a))) := fun c hc => PanF.of hT _ hc a _
    simp only [treeR]
    by_cases h2 : m = 2000
    · rw [if_pos (.inl h2)]
      subst h2
      simp -implicitDefEqProofs [i60k, icKp, i60, r60, TF, rp, hT.eg, hT.er, pickI]
      refine call_go (by simpa [rp, TF] using h61 5) ?_
      simp -implicitDefEqProofs
      exact ⟨_, _, ⟨rfl, hp 5 (by decide)⟩, cv_idq (by simp [TF])⟩
    · have h2' : ¬ (m : Int) = 2000 := by omega
      by_cases h3 : 40 < dep
      · have h3' : 40 < (dep : Int) := by omega
        rw [if_pos (.inr h3)]
        simp -implicitDefEqProofs [i60k, icKp, i60, r60, TF, rp, hT.eg, hT.er, pickI, h3', h2, h2']
        refine call_go (by simpa [rp, TF] using h61 5) ?_
        simp -implicitDefEqProofs
        exact ⟨_, _, ⟨rfl, hp 5 (by decide)⟩, cv_idq (by simp [TF])⟩
      · have h3' : ¬ 40 < (dep : Int) := by omega
        rw [if_neg (by omega)]
        by_cases hal : l.length ≤ a
        · have hal' : (l.length : Int) ≤ a := by omega
          have hal2 : ¬ (a : Int) < l.length := by omega
          have ho1 : ∀ lo hi, octR l lo hi a = .error (16, (a : Int)) := fun lo hi => by unfold octR; rw [if_pos hal]
          have h58 := ok58 (H := TF A C v L) (j := jr) (l := l) (a := a) (by unfold TF; rw [List.getElem?_append_left hj]; exact hT.r) hoct hl ha 1 3
          rw [ho1] at h58
          unfold ndR
          rw [ho1]
          simp only []
          simp -implicitDefEqProofs [i60k, icKp, i60, r60, TF, rp, hT.eg, hT.er, pickI, h3', h2, h2', hal2]
          refine call_goP (by simpa [rp, TF] using h58) ?_
          rintro o H' ⟨rfl, rfl⟩
          have e1 : (A ++ ⟨C, 74, v, true⟩ :: L).set jr (rfO l a (16, (a : Int))) = A.set jr (rfO l a (16, (a : Int))) ++ ⟨C, 74, v, true⟩ :: L := by rw [List.set_append_left _ _ hj]
          rw [e1]
          have hg1 : (A.set jr (rfO l a (16, (a : Int))))[jg]? = some (gO pl (.own A.length 0 m 6 v) is) := by rw [List.getElem?_set_ne hT.ne]; exact hT.g
          have hr1 : (A.set jr (rfO l a (16, (a : Int))))[jr]? = some (rfO l a (16, (a : Int))) := by rw [List.getElem?_set_self hj]
          have hS1 : Same A (A.set jr (rfO l a (16, (a : Int)))) jr jg := Same.setr _
          have hl1 : A.length = (A.set jr (rfO l a (16, (a : Int)))).length := by simp
          obtain ⟨A1, hA1⟩ : ∃ A1, A.set jr (rfO l a (16, (a : Int))) = A1 := ⟨_, rfl⟩
          rw [hA1] at hg1 hr1 hS1 hl1 ⊢
          rw [hl1] at hg1
          have eg : ∀ L', objCells (A1 ++ L') jg 0 = [i64 pl, .own A1.length 0 m 6 v, .slc (infs is) is.length] := fun L' => by
            rw [objCells_app _ (getElem?_lt hg1)]; exact objCells_of (o := gO pl _ is) hg1 rfl
          have esg : ∀ (L' : List AO) (f : AO → AO), Ab.setObj (A1 ++ L') jg f = A1.set jg (f (gO pl (.own A1.length 0 m 6 v) is)) ++ L' := fun L' f => by
            unfold Ab.setObj; rw [List.getElem?_append_left (getElem?_lt hg1), hg1]; simp only; rw [List.set_append_left _ _ (getElem?_lt hg1)]
          simp -implicitDefEqProofs [eg, esg, hl1]
          refine And.intro rfl (And.intro (by omega) (And.intro (by omega) (And.intro hC ?_)))
          have hr2 : ∀ (o : AO) (L' : List AO), (A1.set jg o ++ L')[jr]? = some (rfO l a (16, (a : Int))) := fun o L' => by
            rw [List.getElem?_append_left (by rw [List.length_set]; exact getElem?_lt hr1), List.getElem?_set_ne hT.ne.symm]; exact hr1
          have hp2 : ∀ (o : AO) (L' : List AO), PanF A jr jg l (16, (a : Int)) (A1.set jg o ++ L') := fun o L' =>
            ⟨by rw [List.length_append, List.length_set, ← hl1]; omega, fun i hi h1 h2 => by
              rw [List.getElem?_append_left (by rw [List.length_set, ← hl1]; exact hi), List.getElem?_set_ne (fun e => h2 e.symm)]; exact hS1.at_ i h1 h2, ⟨a, hr2 o L'⟩, by simp⟩
          refine call_go (by simpa [rp] using ok58n (l := l) (a := a) (e := (16, (a : Int))) (hr2 _ _) (by simp) 1 60) ?_
          simp -implicitDefEqProofs
          refine loopF60_0n (hr2 _ _) (by simp) (n := 1) (i := 0) (by simp [rp]) (by simp) (by simp) (fun env k0 k8 => ?_)
          simp only [rp] at k0
          simp -implicitDefEqProofs
          refine loopF60_2n (hr2 _ _) (by simp) (n := 1) (i := 0) (by simp [k0, rp]) (by simp [k8]) (by simp) (fun env k0 => ?_)
          exact fin60e (hp2 _ _) k0
        · have hlt : a < l.length := by omega
          have hlt' : (a : Int) < l.length := by omega
          have hba := byts_at hlt
          have hb := hoct _ (List.getElem_mem hlt)
          obtain ⟨z, hz⟩ : ∃ z, l[a] = z := ⟨_, rfl⟩
          rw [hz] at hba hb
          have ho1 : octR l 0 255 a = .ok (z, a + 1) := by
            unfold octR
            rw [if_neg (by omega), if_neg]
            · simp [hlt, hz]
            · simp only [List.getD_eq_getElem?_getD, List.getElem?_eq_getElem hlt, Option.getD_some, hz]; omega
          unfold ndR
          rw [ho1]
          simp only []
          by_cases hz1 : z < 1
          · rw [if_neg (by omega), if_neg (by omega), if_neg (by omega)]
            simp -implicitDefEqProofs [i60k, icKp, i60, r60, TF, rp, hT.eg, hT.er, pickI, h3', h2, h2', hlt, hlt', hba, hz, hz1]
            refine And.intro (by omega) (call_go (by simpa [rp, TF] using h61 3) ?_)
            simp -implicitDefEqProofs
            exact ⟨_, _, ⟨rfl, hp 3 (by decide)⟩, cv_idq (by simp [TF])⟩
          · by_cases hz3 : 3 < z
            · rw [if_neg (by omega), if_neg (by omega), if_neg (by omega)]
              simp -implicitDefEqProofs [i60k, icKp, i60, r60, TF, rp, hT.eg, hT.er, pickI, h3', h2, h2', hlt, hlt', hba, hz, hz1, hz3]
              refine And.intro (by omega) (call_go (by simpa [rp, TF] using h61 3) ?_)
              simp -implicitDefEqProofs
              exact ⟨_, _, ⟨rfl, hp 3 (by decide)⟩, cv_idq (by simp [TF])⟩
            · simp -implicitDefEqProofs [i60k, icKp, i60, r60, TF, rp, hT.eg, hT.er, pickI, h3', h2, h2', hlt, hlt', hba, hz, hz1, hz3]
              have h58 := ok58 (H := TF A C v L) (j := jr) (l := l) (a := a) (by unfold TF; rw [List.getElem?_append_left hj]; exact hT.r) hoct hl ha 1 3
              have ho2 : octR l 1 3 a = .ok (z, a + 1) := by
                unfold octR
                rw [if_neg (by omega), if_neg]
                · simp [hlt, hz]
                · simp only [List.getD_eq_getElem?_getD, List.getElem?_eq_getElem hlt, Option.getD_some, hz]; omega
              rw [ho2] at h58
              refine And.intro (by omega) (call_goP (by simpa [rp, TF] using h58) ?_)
              rintro o H' ⟨rfl, rfl⟩
              have hT1 := hT.setr (a + 1)
              have hS1 : Same A (A.set jr (rfO l (a + 1) (0, 0))) jr jg := Same.setr _
              have e1 : (A ++ ⟨C, 74, v, true⟩ :: L).set jr (rfO l (a + 1) (0, 0)) = TF (A.set jr (rfO l (a + 1) (0, 0))) C v L := by
                unfold TF; rw [List.set_append_left _ _ hj]
              rw [e1]
              obtain ⟨A1, hA1⟩ : ∃ A1, A.set jr (rfO l (a + 1) (0, 0)) = A1 := ⟨_, rfl⟩
              rw [hA1] at hT1 hS1 ⊢
              unfold TF
              simp -implicitDefEqProofs [hT1.eg, hT1.er, hT1.sg]
              have hlA : A.length = A1.length := hS1.len.symm
              refine And.intro rfl (And.intro (by omega) (And.intro (by omega) (And.intro hC ?_)))
              have hT2 := hT1.setg (m + 1) (v + 1)
              have hS2 : Same A (A1.set jg (gO pl (.own A1.length 0 (m + 1) 6 (v + 1)) is)) jr jg := hS1.trans (Same.setg _)
              simp -implicitDefEqProofs [gO]
              simp only [gO] at hT2 hS2
              have hl2 : A1.length = (A1.set jg ⟨[i64 pl, .own A1.length 0 (m + 1) 6 (v + 1), .slc (infs is) is.length], 25, 0, true⟩).length := by simp
              generalize hA2 : A1.set jg ⟨[i64 pl, .own A1.length 0 (m + 1) 6 (v + 1), .slc (infs is) is.length], 25, 0, true⟩ = A2 at hT2 hS2 hl2 ⊢
              clear hA2
              have hP : ([i64 z, i64 0, i64 0, nl, nl, nl] : List SV).length = 6 := rfl
              have hPo : cellsOk [i64 z, i64 0, i64 0, nl, nl, nl] := by
                intro s hs
                simp only [List.mem_cons, List.not_mem_nil, or_false] at hs
                rcases hs with rfl | rfl | rfl | rfl | rfl | rfl <;> rfl
              rw [hl2] at *
              by_cases k1 : z = 1
              · subst k1
                have hj2 := getElem?_lt hT2.r
                have h58 := ok58 (H := TF A2 (C ++ [i64 1, i64 0, i64 0, nl, nl, nl]) (v + 1) (L ++ [⟨[i64 1, i64 0, i64 0, nl, nl, nl], 74, 0, true⟩, ⟨[i64 1, i64 0, i64 0, nl, nl, nl], 74, 0, true⟩])) (j := jr) (l := l) (a := a + 1) (by unfold TF; rw [List.getElem?_append_left hj2]; exact hT2.r) hoct hl (by omega) 1 60
                have hnx := fun v a' h => octR_next (l := l) (lo := 1) (hi := 60) (a := a + 1) (a' := a') (n := v) h
                have hne := fun e => octR_err (l := l) (lo := 1) (hi := 60) (a := a + 1) (e := e)
                rw [if_pos rfl, if_pos rfl]
                generalize octR l 1 60 (a + 1) = q at *
                refine call_goP (OkP.cast rfl (by simp [TF]) h58) ?_
                rintro o H' ho
                cases q with
                | error e =>
                  obtain ⟨rfl, rfl⟩ := ho
                  have hp : PanF A jr jg l e ((TF A2 (C ++ [i64 1, i64 0, i64 0, nl, nl, nl]) (v + 1) (L ++ [⟨[i64 1, i64 0, i64 0, nl, nl, nl], 74, 0, true⟩, ⟨[i64 1, i64 0, i64 0, nl, nl, nl], 74, 0, true⟩])).set jr (rfO l (a + 1) e)) := (PanF.of hT2 e (hne e rfl) (a + 1) _).same hS2
                  obtain ⟨H2, hH2⟩ : ∃ H2, (TF A2 (C ++ [i64 1, i64 0, i64 0, nl, nl, nl]) (v + 1) (L ++ [⟨[i64 1, i64 0, i64 0, nl, nl, nl], 74, 0, true⟩, ⟨[i64 1, i64 0, i64 0, nl, nl, nl], 74, 0, true⟩])).set jr (rfO l (a + 1) e) = H2 := ⟨_, rfl⟩
                  rw [hH2] at hp ⊢
                  obtain ⟨a9, hra⟩ := hp.r
                  simp -implicitDefEqProofs
                  refine loopF60_0n hra hp.ne (n := 1) (i := 0) (by simp [rp]) (by simp) (by simp) (fun env k0 k8 => ?_)
                  simp only [rp] at k0
                  simp -implicitDefEqProofs
                  refine loopF60_2n hra hp.ne (n := 1) (i := 0) (by simp [k0, rp]) (by simp [k8]) (by simp) (fun env k0 => ?_)
                  exact fin60e hp k0
                | ok p =>
                  obtain ⟨mv, a2⟩ := p
                  obtain ⟨rfl, rfl⟩ := ho
                  have hn := hnx mv a2 rfl
                  obtain ⟨cn, rfl⟩ : ∃ c : Nat, mv = c := ⟨mv.toNat, by omega⟩
                  have hT3 := hT2.setr a2
                  have hS3 : Same A (A2.set jr (rfO l a2 (0, 0))) jr jg := hS2.trans (Same.setr _)
                  have eset : ∀ LL, (TF A2 (C ++ [i64 1, i64 0, i64 0, nl, nl, nl]) (v + 1) LL).set jr (rfO l a2 (0, 0)) = TF (A2.set jr (rfO l a2 (0, 0))) (C ++ [i64 1, i64 0, i64 0, nl, nl, nl]) (v + 1) LL := fun LL => by unfold TF; rw [List.set_append_left _ _ hj2]
                  rw [eset]
                  have hl3 : A2.length = (A2.set jr (rfO l a2 (0, 0))).length := by simp
                  obtain ⟨A3, hA3⟩ : ∃ A3, A2.set jr (rfO l a2 (0, 0)) = A3 := ⟨_, rfl⟩
                  rw [hA3] at hT3 hS3 hl3 ⊢
                  simp only [Int.toNat_natCast]
                  have hlx := fun vs a' h => listR_next (f := numR l 1 1000) (b := l.length) (fun a v a' ha h => numR_next h ha) cn a2 vs a' hn.2.1 h
                  obtain ⟨lr, hlr⟩ : ∃ lr, listR (numR l 1 1000) cn a2 = lr := ⟨_, rfl⟩
                  rw [hlr] at hlx ⊢
                  simp -implicitDefEqProofs
                  refine LI.tell (Tell.own0 (j := A3.length + (L.length + 1)) (p := 4) (o := ⟨[i64 1, i64 0, i64 0, nl, nl, nl], 74, 0, true⟩) (by simp [TF]) rfl rfl 3 1) (LI.cong (H' := sW6 A3 (C ++ [i64 1, i64 0, i64 0, nl, nl, nl]) (v + 1) L ⟨[i64 1, i64 0, i64 0, nl, nl, nl], 74, 0, true⟩ [] []) (by simp [sW6, TF, set_app0, ints])
                    (loopF60_0 (A := A3) (jg := jg) (m := m + 1) (v := v + 1) (pl := pl) (is := is) hoct hl (cnt := cn) (by omega) (r := lr) (e1 := rp jg) (e2 := i64 dep) (e6 := i64 m) (e7 := rp (A3.length + (L.length + 1))) rfl (fun e he env H' k0 k8 hp => ?_) (fun ws a4 A4 he hS4 hT4 env M k0 k1 k2 k6 k7 k8 => ?_) cn 0 a2 [] A3 _ [] (by omega) hn.2.1 rfl (Same.refl _ _ _) hT3 (by rw [preR_nil]; exact hlr) ?_ ?_ ?_ ?_ ?_ ?_ ?_))
                  · subst he
                    obtain ⟨a9, hra⟩ := hp.r
                    simp only [rp] at k0
                    simp -implicitDefEqProofs
                    refine loopF60_2n hra hp.ne (n := cn) (i := 0) (by simp [k0, rp]) (by simp [k8]) (by simp) (fun env k0 => ?_)
                    exact fin60e (hp.same hS3) k0
                  · subst he
                    have hx := hlx ws a4 rfl
                    simp -implicitDefEqProofs
                    have hS5 := hS3.trans hS4
                    unfold sW6
                    refine LI.tell (Tell.own0 (j := A4.length + (L.length + 1)) (p := 5) (o := ⟨[i64 1, i64 0, i64 0, nl, .own (A4.length + (L.length + 3)) 0 ws.length 1 ws.length, nl], 74, 0, true⟩) (by simp [TF]) rfl rfl 3 1)
                      (LI.cong (H' := TF A4 (C ++ [i64 1, i64 0, i64 0, nl, nl, nl]) (v + 1) (L ++ (⟨[i64 1, i64 0, i64 0, nl, .own (A4.length + (L.length + 3)) 0 ws.length 1 ws.length, .own (A4.length + (L.length + (M.length + 4))) 0 0 1 0], 74, 0, true⟩ : AO) :: ((⟨[i64 1, i64 0, i64 0, nl, nl, nl], 74, 0, true⟩ : AO) :: (⟨ints ws, 3, ws.length, true⟩ : AO) :: (M ++ [(⟨[], 3, 0, true⟩ : AO)])))) (by simp [TF, set_app0])
                        (rest60 (A := A) (x := ⟨1, 0, 0, [], ws, []⟩) (wv := .own (A4.length + (L.length + 3)) 0 ws.length 1 ws.length) (pv := .own (A4.length + (L.length + (M.length + 4))) 0 0 1 0) (B := (⟨[i64 1, i64 0, i64 0, nl, nl, nl], 74, 0, true⟩ : AO) :: (⟨ints ws, 3, ws.length, true⟩ : AO) :: (M ++ [(⟨[], 3, 0, true⟩ : AO)])) (f := f) (dep := dep) (cn := cn) hC hP hCo hPo (by omega) (by omega) (by omega) hkb hcl' (fun m a v A' C' L' h1 h2 h3 h4 h5 => ih (dep + 1) m a v A' C' L' (by omega) h1 h2 h3 h4 h5) hx.2.1 hS5 hT4 rfl rfl rfl (fun T7 R => ?_) (fun T7 R => ?_) ?_ ?_ ?_ ?_ ?_ ?_ ?_ ?_))
                    · rw [fz_at (k := 2) (o := ⟨ints ws, 3, ws.length, true⟩) (by rw [hS5.len]; omega) rfl rfl rfl (by simp [ints])]
                      simp [sl, List.take_of_length_le, show (ints ws).length = ws.length by simp [ints]]
                    · rw [fz_at (k := M.length + 3) (o := ⟨[], 3, 0, true⟩) (by rw [hS5.len]; omega) (by simp [get_app0]) rfl rfl (by simp)]
                      simp [sl, ints]
                    · exact fun env H' h => h
                    all_goals simp [k0, k1, k2, k6, k7, k8, hS4.len]
                  all_goals simp [rp, hl3]
              · by_cases k2 : z = 2
                · subst k2
                  have hj2 := getElem?_lt hT2.r
                  have h59 := ok59 (H := TF A2 (C ++ [i64 2, i64 0, i64 0, nl, nl, nl]) (v + 1) (L ++ [⟨[i64 2, i64 0, i64 0, nl, nl, nl], 74, 0, true⟩, ⟨[i64 2, i64 0, i64 0, nl, nl, nl], 74, 0, true⟩])) (j := jr) (l := l) (a := a + 1) (by unfold TF; rw [List.getElem?_append_left hj2]; exact hT2.r) hoct hl (by omega) 0 (is.length - 1)
                  have hnx := fun v a' h => numR_next (l := l) (lo := 0) (hi := is.length - 1) (a := a + 1) (a' := a') (n := v) h (by omega)
                  have hrg := fun v a' h => numR_rng (l := l) (lo := 0) (hi := is.length - 1) (a := a + 1) (a' := a') (n := v) h
                  have hne := fun e => numR_err (l := l) (lo := 0) (hi := is.length - 1) (a := a + 1) (e := e)
                  have w9 : IntKind.i64.wrap ((is.length : Int) - 1) = is.length - 1 := wrap_id (by omega) (by omega)
                  rw [if_neg (by decide), if_pos rfl, if_neg (by decide), if_pos rfl]
                  generalize numR l 0 (is.length - 1) (a + 1) = q at *
                  simp -implicitDefEqProofs [hT2.eg, w9]
                  refine call_goP (OkP.cast rfl (by simp [TF]) h59) ?_
                  rintro o H' ho
                  cases q with
                  | error e =>
                    obtain ⟨rfl, rfl⟩ := ho
                    have eset : ∀ LL, (TF A2 (C ++ [i64 2, i64 0, i64 0, nl, nl, nl]) (v + 1) LL).set jr (rfO l (a + 1) e) = TF (A2.set jr (rfO l (a + 1) e)) (C ++ [i64 2, i64 0, i64 0, nl, nl, nl]) (v + 1) LL := fun LL => by unfold TF; rw [List.set_append_left _ _ hj2]
                    rw [eset]
                    have hp : ∀ L', PanF A jr jg l e (A2.set jr (rfO l (a + 1) e) ++ L') := fun L' => (PanF.of' hT2 e (hne e rfl) (a + 1) L').same hS2
                    have er : ∀ L', objCells (A2.set jr (rfO l (a + 1) e) ++ L') jr 0 = [.slc (byts l) l.length, i64 (a + 1 : Nat), i64 e.1, i64 e.2] := fun L' => by
                      rw [objCells_app _ (by simpa using hj2)]; exact objCells_of (o := rfO l (a + 1) e) (by rw [List.getElem?_set_self hj2]) rfl
                    have hl3 : A2.length = (A2.set jr (rfO l (a + 1) e)).length := by simp
                    obtain ⟨A3, hA3⟩ : ∃ A3, A2.set jr (rfO l (a + 1) e) = A3 := ⟨_, rfl⟩
                    rw [hA3] at hp er hl3 ⊢
                    have hne1 := hne e rfl
                    unfold TF
                    simp -implicitDefEqProofs [hl3, er, hne1]
                    refine LI.cong (H' := A3 ++ _) rfl (loopF60_2n (jr := jr) (l := l) (a := (hp _).r.choose) (e := e) (hp _).r.choose_spec hne1 (n := 0) (i := 0) ?_ ?_ ?_ (fun env k0 => ?_))
                    · simp [rp]
                    · simp
                    · simp
                    · exact fin60e (hp _) k0
                  | ok p =>
                    obtain ⟨iv, a2⟩ := p
                    obtain ⟨rfl, rfl⟩ := ho
                    have hn := hnx iv a2 rfl
                    have hr2 := hrg iv a2 rfl
                    obtain ⟨ci, rfl⟩ : ∃ c : Nat, iv = c := ⟨iv.toNat, by omega⟩
                    have hil : ci < is.length := by omega
                    have hia : infAt is ci = is[ci] := by simp [infAt, hil]
                    have hT3 := hT2.setr a2
                    have hS3 : Same A (A2.set jr (rfO l a2 (0, 0))) jr jg := hS2.trans (Same.setr _)
                    have eset : ∀ LL, (TF A2 (C ++ [i64 2, i64 0, i64 0, nl, nl, nl]) (v + 1) LL).set jr (rfO l a2 (0, 0)) = TF (A2.set jr (rfO l a2 (0, 0))) (C ++ [i64 2, i64 0, i64 0, nl, nl, nl]) (v + 1) LL := fun LL => by unfold TF; rw [List.set_append_left _ _ hj2]
                    rw [eset]
                    have hl3 : A2.length = (A2.set jr (rfO l a2 (0, 0))).length := by simp
                    obtain ⟨A3, hA3⟩ : ∃ A3, A2.set jr (rfO l a2 (0, 0)) = A3 := ⟨_, rfl⟩
                    rw [hA3] at hT3 hS3 hl3 ⊢
                    have hkk := hkb _ (List.getElem_mem hil)
                    obtain ⟨cn, hcn⟩ : ∃ c : Nat, is[ci].2 = c := ⟨is[ci].2.toNat, by omega⟩
                    have ii := infs_len is
                    simp only [hia, hcn, Int.toNat_natCast]
                    unfold TF
                    simp -implicitDefEqProofs [hl3, hT3.er, hT3.eg, hil, infs_at hil, infs_min hil, infs_ge hil, infs_g1 hil, infs_g0 hil, hcn]
                    refine And.intro (by omega) ?_
                    refine LI.tell (Tell.own0 (j := A3.length + (L.length + 1)) (p := 4) (o := ⟨[i64 2, i64 is[ci].1, i64 ci, nl, nl, nl], 74, 0, true⟩) (by simp) rfl rfl 3 1) ?_
                    refine LI.tell (Tell.own0 (j := A3.length + (L.length + 1)) (p := 5) (o := ⟨[i64 2, i64 is[ci].1, i64 ci, nl, .own (A3.length + (L.length + 3)) 0 0 1 0, nl], 74, 0, true⟩) (by simp [set_app0]) rfl rfl 3 1) ?_
                    refine (LI.cong (H' := TF A3 (C ++ [i64 2, i64 0, i64 0, nl, nl, nl]) (v + 1) (L ++ (⟨[i64 2, i64 is[ci].1, i64 ci, nl, .own (A3.length + (L.length + 3)) 0 0 1 0, .own (A3.length + (L.length + 4)) 0 0 1 0], 74, 0, true⟩ : AO) :: ((⟨[i64 2, i64 0, i64 0, nl, nl, nl], 74, 0, true⟩ : AO) :: (⟨[], 3, 0, true⟩ : AO) :: [(⟨[], 3, 0, true⟩ : AO)]))) (by simp [TF, set_app0])
                      (rest60 (A := A) (x := ⟨2, is[ci].1, ci, [], [], []⟩) (wv := .own (A3.length + (L.length + 3)) 0 0 1 0) (pv := .own (A3.length + (L.length + 4)) 0 0 1 0) (B := (⟨[i64 2, i64 0, i64 0, nl, nl, nl], 74, 0, true⟩ : AO) :: (⟨[], 3, 0, true⟩ : AO) :: [(⟨[], 3, 0, true⟩ : AO)]) (f := f) (dep := dep) (cn := cn) hC hP hCo hPo (by omega) (by omega) (by omega) hkb hcl' (fun m a v A' C' L' h1 h2 h3 h4 h5 => ih (dep + 1) m a v A' C' L' (by omega) h1 h2 h3 h4 h5) hn.2 hS3 hT3 rfl rfl rfl (fun T7 R => ?_) (fun T7 R => ?_) ?_ ?_ ?_ ?_ ?_ ?_ ?_ ?_))
                    · rw [fz_at (k := 2) (o := ⟨[], 3, 0, true⟩) (by rw [hS3.len]; omega) rfl rfl rfl (by simp)]
                      simp [sl, ints]
                    · rw [fz_at (k := 3) (o := ⟨[], 3, 0, true⟩) (by rw [hS3.len]; omega) rfl rfl rfl (by simp)]
                      simp [sl, ints]
                    · exact fun env H' h => h
                    all_goals simp [rp]
                · have k3 : z = 3 := by omega
                  subst k3
                  rw [if_neg (by decide), if_neg (by decide), if_neg (by decide), if_neg (by decide), if_pos rfl]
                  have hpn' : pl.toNat = pn := by omega
                  rw [hpn']
                  have hlx := fun vs a' h => listR_next (f := sgnR l (-1000000) 1000000) (b := l.length) (fun a v a' ha h => sgnR_next h ha) pn (a + 1) vs a' (by omega) h
                  obtain ⟨lr, hlr⟩ : ∃ lr, listR (sgnR l (-1000000) 1000000) pn (a + 1) = lr := ⟨_, rfl⟩
                  rw [hlr] at hlx ⊢
                  simp -implicitDefEqProofs
                  refine LI.tell (Tell.own0 (j := A2.length + (L.length + 1)) (p := 5) (o := ⟨[i64 3, i64 0, i64 0, nl, nl, nl], 74, 0, true⟩) (by simp) rfl rfl 3 1) (LI.cong (H' := sP6 A2 (C ++ [i64 3, i64 0, i64 0, nl, nl, nl]) (v + 1) L ⟨[i64 3, i64 0, i64 0, nl, nl, nl], 74, 0, true⟩ [] []) (by simp [sP6, TF, set_app0, ints])
                    (loopF60_1 (A := A2) (jg := jg) (m := m + 1) (v := v + 1) (pl := pl) (is := is) hoct hl (cnt := pn) hpl hpn (r := lr) (e2 := i64 dep) (e6 := i64 m) (e7 := rp (A2.length + (L.length + 1))) (e8 := i64 0) rfl (fun e he env H' k0 k8 hp => ?_) (fun ps a4 A4 he hS4 hT4 env M k0 k1 k2 k6 k7 k8 => ?_) pn 0 (a + 1) [] A2 _ [] (by omega) (by omega) rfl (Same.refl _ _ _) hT2 (by rw [preR_nil]; exact hlr) ?_ ?_ ?_ ?_ ?_ ?_ ?_))
                  · subst he
                    obtain ⟨a9, hra⟩ := hp.r
                    simp only [rp] at k0
                    simp -implicitDefEqProofs
                    refine loopF60_2n hra hp.ne (n := 0) (i := 0) (by simp [k0, rp]) (by simp [k8]) (by simp) (fun env k0 => ?_)
                    exact fin60e (hp.same hS2) k0
                  · subst he
                    have hx := hlx ps a4 rfl
                    simp -implicitDefEqProofs
                    have hS5 := hS2.trans hS4
                    unfold sP6
                    refine LI.tell (Tell.own0 (j := A4.length + (L.length + 1)) (p := 4) (o := ⟨[i64 3, i64 0, i64 0, nl, nl, .own (A4.length + (L.length + 3)) 0 ps.length 1 ps.length], 74, 0, true⟩) (by simp [TF]) rfl rfl 3 1)
                      (LI.cong (H' := TF A4 (C ++ [i64 3, i64 0, i64 0, nl, nl, nl]) (v + 1) (L ++ (⟨[i64 3, i64 0, i64 0, nl, .own (A4.length + (L.length + (M.length + 4))) 0 0 1 0, .own (A4.length + (L.length + 3)) 0 ps.length 1 ps.length], 74, 0, true⟩ : AO) :: ((⟨[i64 3, i64 0, i64 0, nl, nl, nl], 74, 0, true⟩ : AO) :: (⟨ints ps, 3, ps.length, true⟩ : AO) :: (M ++ [(⟨[], 3, 0, true⟩ : AO)])))) (by simp [TF, set_app0])
                        (rest60 (A := A) (x := ⟨3, 0, 0, [], [], ps⟩) (wv := .own (A4.length + (L.length + (M.length + 4))) 0 0 1 0) (pv := .own (A4.length + (L.length + 3)) 0 ps.length 1 ps.length) (B := (⟨[i64 3, i64 0, i64 0, nl, nl, nl], 74, 0, true⟩ : AO) :: (⟨ints ps, 3, ps.length, true⟩ : AO) :: (M ++ [(⟨[], 3, 0, true⟩ : AO)])) (f := f) (dep := dep) (cn := 0) hC hP hCo hPo (by omega) (by omega) (by omega) hkb hcl' (fun m a v A' C' L' h1 h2 h3 h4 h5 => ih (dep + 1) m a v A' C' L' (by omega) h1 h2 h3 h4 h5) hx.2.1 hS5 hT4 rfl rfl rfl (fun T7 R => ?_) (fun T7 R => ?_) ?_ ?_ ?_ ?_ ?_ ?_ ?_ ?_))
                    · rw [fz_at (k := M.length + 3) (o := ⟨[], 3, 0, true⟩) (by rw [hS5.len]; omega) (by simp [get_app0]) rfl rfl (by simp)]
                      simp [sl, ints]
                    · rw [fz_at (k := 2) (o := ⟨ints ps, 3, ps.length, true⟩) (by rw [hS5.len]; omega) rfl rfl rfl (by simp [ints])]
                      simp [sl, List.take_of_length_le, show (ints ps).length = ps.length by simp [ints]]
                    · exact fun env H' h => h
                    all_goals simp [k0, k1, k2, k6, k7, k8, hS4.len]
                  all_goals simp [rp]
end
end Go.Proofs.Ytoghpbjllompaaa.Rc

/- R6 -/
namespace Go.Proofs.Ytoghpbjllompaaa.Rc
open Go.Ab
def sJ (H : List AO) (l : List Int) (a : Nat) (e : Fl) (pl : Int) (is : List (Int × Int)) (M : List AO) : List AO :=
  H ++ ⟨[i64 0, nl, nl], 25, 0, true⟩ :: flO (0, 0) :: rfO l a e :: ⟨[i64 pl, nl, .own (H.length + 4) 0 is.length 2 is.length], 25, 0, true⟩ :: ⟨infs is, 72, is.length, true⟩ :: M
section
variable {H : List AO} {l : List Int}
theorem sJ_r {a : Nat} {e : Fl} {pl : Int} {is : List (Int × Int)} {M : List AO} : (sJ H l a e pl is M)[H.length + 2]? = some (rfO l a e) := by simp [sJ]
theorem sJ_set {a a' : Nat} {e e' : Fl} {pl : Int} {is : List (Int × Int)} {M : List AO} : (sJ H l a e pl is M).set (H.length + 2) (rfO l a' e') = sJ H l a' e' pl is M := by simp [sJ]
theorem loop31n {a : Nat} {e : Fl} {pl : Int} {is : List (Int × Int)} {M : List AO} (he : e.1 ≠ 0) {c : Int} {N : Nat} {K : XE → Env → List AO → Prop} {env : Env}
    (h2 : env.get 2 = rp H.length) (h3 : env.get 3 = rp (H.length + 1)) (h4 : env.get 4 = rp (H.length + 2)) (h5 : env.get 5 = rp (H.length + 3)) (h6 : env.get 6 = i64 c)
    (hk : ∀ env, env.get 2 = rp H.length → env.get 3 = rp (H.length + 1) → env.get 4 = rp (H.length + 2) → env.get 5 = rp (H.length + 3) → K (.exit 0) env (sJ H l a e pl is M)) : LI Try.prog N drawB l31_0 env (sJ H l a e pl is M) K := by
  refine li_go hm l31_0.eq_1 ?_
  have er : objCells (sJ H l a e pl is M) (H.length + 2) 0 = [.slc (byts l) l.length, i64 a, i64 e.1, i64 e.2] := objCells_of (o := rfO l a e) sJ_r rfl
  simp only [rp] at h2 h3 h4 h5
  by_cases hi : 0 < c
  · simp -implicitDefEqProofs [h2, h3, h4, h5, h6, er, he, hi]
    refine hk _ ?_ ?_ ?_ ?_ <;> simp [h2, h3, h4, h5, rp]
  · simp -implicitDefEqProofs [h2, h3, h4, h5, h6, er, he, hi]
    refine hk _ ?_ ?_ ?_ ?_ <;> simp [h2, h3, h4, h5, rp]
theorem loop31 (hoct : Oct l) (hl : l.length ≤ 100000) {pl : Int} (hpl : 1 ≤ pl ∧ pl ≤ 4) {cnt : Nat} (hc : cnt ≤ 1000) {r : Except Fl (List (Int × Int) × Nat)} {N : Nat} {K : XE → Env → List AO → Prop}
    (herr : ∀ e, r = .error e → ∀ env a is M, env.get 2 = rp H.length → env.get 3 = rp (H.length + 1) → env.get 4 = rp (H.length + 2) → env.get 5 = rp (H.length + 3) → e.1 ≠ 0 → K (.exit 0) env (sJ H l a e pl is M))
    (hexit : ∀ is a, r = .ok (is, a) → ∀ env M, env.get 2 = rp H.length → env.get 3 = rp (H.length + 1) → env.get 4 = rp (H.length + 2) → env.get 5 = rp (H.length + 3) → K (.exit 0) env (sJ H l a (0, 0) pl is M)) :
    ∀ (n a : Nat) (is : List (Int × Int)) (env : Env) (M : List AO), is.length + n = cnt → a ≤ l.length → preI is (infsR pl l n a) = r → env.get 2 = rp H.length → env.get 3 = rp (H.length + 1) → env.get 4 = rp (H.length + 2) → env.get 5 = rp (H.length + 3) →
      env.get 6 = i64 n → LI Try.prog N drawB l31_0 env (sJ H l a (0, 0) pl is M) K := by
  intro n
  induction n with
  | zero =>
    intro a is env M hi ha hr h2 h3 h4 h5 h6
    refine li_go hm l31_0.eq_1 ?_
    have hr : r = .ok (is, a) := by rw [← hr]; simp [infsR, preI]
    simp only [rp] at h2 h3 h4 h5
    simp -implicitDefEqProofs [h2, h3, h4, h5, h6]
    refine hexit is a hr _ M ?_ ?_ ?_ ?_ <;> simp [h2, h3, h4, h5, rp]
  | succ n ih =>
    intro a is env M hi ha hr h2 h3 h4 h5 h6
    refine li_go hm l31_0.eq_1 ?_
    have w1 : IntKind.i64.wrap ((n : Int) + 1 - 1) = n := by rw [wrap_id (by omega) (by omega)]; omega
    have w3 : IntKind.i64.wrap (n : Int) = n := wrap_nat (by omega)
    have w2 : IntKind.i64.wrap (pl - 1) = pl - 1 := wrap_id (by omega) (by omega)
    have hn0 : (0 : Int) < (n : Int) + 1 := by omega
    rw [preI_step] at hr
    unfold infR at hr
    have er : objCells (sJ H l a (0, 0) pl is M) (H.length + 2) 0 = [.slc (byts l) l.length, i64 a, i64 0, i64 0] := objCells_of (o := rfO l a (0, 0)) sJ_r rfl
    have eg : objCells (sJ H l a (0, 0) pl is M) (H.length + 3) 0 = [i64 pl, nl, .own (H.length + 4) 0 is.length 2 is.length] := by simp [sJ]
    have h58 := ok58 (H := sJ H l a (0, 0) pl is M) (j := H.length + 2) (l := l) (a := a) sJ_r hoct hl ha 0 (pl - 1)
    have hnx := fun v a' h => octR_next (l := l) (lo := 0) (hi := pl - 1) (a := a) (a' := a') (n := v) h
    have hne := fun e => octR_err (l := l) (lo := 0) (hi := pl - 1) (a := a) (e := e)
    generalize octR l 0 (pl - 1) a = q at *
    simp only [rp] at h2 h3 h4 h5 h58
    simp -implicitDefEqProofs [h2, h3, h4, h5, h6, er, eg, hn0, w2]
    refine call_goP h58 ?_
    rintro o H' ho
    cases q with
    | error e =>
      obtain ⟨rfl, rfl⟩ := ho
      rw [sJ_set]
      simp only [] at hr
      simp -implicitDefEqProofs [h2, h3, h4, h5, h6]
      have il := infs_len is
      have hsn : infs (is ++ [(0, 1)]) = infs is ++ [i64 0, i64 1] := infs_snoc _ _ _
      have ej : sJ H l a e pl is M ++ [⟨[i64 0, i64 0], 72, 0, true⟩] = sJ H l a e pl is (M ++ [⟨[i64 0, i64 0], 72, 0, true⟩]) := by simp [sJ]
      have el : (sJ H l a e pl is M).length = H.length + (M.length + 5) := by simp [sJ]
      rw [ej, el]
      refine call_go (by simpa [rp] using ok58n (H := sJ H l a e pl is (M ++ [⟨[i64 0, i64 0], 72, 0, true⟩])) (j := H.length + 2) (l := l) (a := a) (e := e) sJ_r (hne e rfl) 1 10) ?_
      unfold sJ
      simp -implicitDefEqProofs [h2, h3, h4, h5, h6, w1, w3, il]
      repeat (refine And.intro (by omega) ?_)
      refine LI.cong (H' := sJ H l a e pl (is ++ [(0, 1)]) (M ++ [⟨[i64 0, i64 1], 72, 0, true⟩, ⟨[i64 0, i64 1], 72, 0, true⟩])) (by simp [sJ, hsn]) (loop31n (hne e rfl) (c := n) ?_ ?_ ?_ ?_ ?_ (fun env k2 k3 k4 k5 => herr e hr.symm env _ _ _ k2 k3 k4 k5 (hne e rfl)))
      all_goals simp [rp, h2, h3, h4, h5]
    | ok p =>
      obtain ⟨k, a1⟩ := p
      obtain ⟨rfl, rfl⟩ := ho
      have hn := hnx k a1 rfl
      rw [sJ_set]
      simp only [] at hr
      simp -implicitDefEqProofs [h2, h3, h4, h5, h6]
      have il := infs_len is
      have ej : sJ H l a1 (0, 0) pl is M ++ [⟨[i64 k, i64 0], 72, 0, true⟩] = sJ H l a1 (0, 0) pl is (M ++ [⟨[i64 k, i64 0], 72, 0, true⟩]) := by simp [sJ]
      have el : (sJ H l a1 (0, 0) pl is M).length = H.length + (M.length + 5) := by simp [sJ]
      rw [ej, el]
      have h58 := ok58 (H := sJ H l a1 (0, 0) pl is (M ++ [⟨[i64 k, i64 0], 72, 0, true⟩])) (j := H.length + 2) (l := l) (a := a1) sJ_r hoct hl hn.2.1 1 10
      have hnx := fun v a' h => octR_next (l := l) (lo := 1) (hi := 10) (a := a1) (a' := a') (n := v) h
      have hne := fun e => octR_err (l := l) (lo := 1) (hi := 10) (a := a1) (e := e)
      generalize octR l 1 10 a1 = q at *
      refine call_goP (by simpa [rp] using h58) ?_
      rintro o H' ho
      cases q with
      | error e =>
        obtain ⟨rfl, rfl⟩ := ho
        have hsn : infs (is ++ [(k, 1)]) = infs is ++ [i64 k, i64 1] := infs_snoc _ _ _
        simp only [] at hr
        rw [sJ_set]
        unfold sJ
        simp -implicitDefEqProofs [h2, h3, h4, h5, h6, w1, w3, il]
        repeat (refine And.intro (by omega) ?_)
        refine LI.cong (H' := sJ H l a1 e pl (is ++ [(k, 1)]) (M ++ [⟨[i64 k, i64 1], 72, 0, true⟩, ⟨[i64 k, i64 1], 72, 0, true⟩])) (by simp [sJ, hsn]) (loop31n (hne e rfl) (c := n) ?_ ?_ ?_ ?_ ?_ (fun env k2 k3 k4 k5 => herr e hr.symm env _ _ _ k2 k3 k4 k5 (hne e rfl)))
        all_goals simp [rp, h2, h3, h4, h5]
      | ok p =>
        obtain ⟨m, a2⟩ := p
        obtain ⟨rfl, rfl⟩ := ho
        have hn2 := hnx m a2 rfl
        have hsn : infs (is ++ [(k, m)]) = infs is ++ [i64 k, i64 m] := infs_snoc _ _ _
        simp only [] at hr
        rw [sJ_set]
        unfold sJ
        simp -implicitDefEqProofs [h2, h3, h4, h5, h6, w1, w3, il]
        repeat (refine And.intro (by omega) ?_)
        refine LI.cong (H' := sJ H l a2 (0, 0) pl (is ++ [(k, m)]) (M ++ [⟨[i64 k, i64 m], 72, 0, true⟩, ⟨[i64 k, i64 m], 72, 0, true⟩])) (by simp [sJ, hsn]) (ih a2 (is ++ [(k, m)]) _ _ (by simp; omega) hn2.2.1 hr ?_ ?_ ?_ ?_ ?_)
        all_goals simp [rp, h2, h3, h4, h5]
end
end Go.Proofs.Ytoghpbjllompaaa.Rc

/- R6a -/
namespace Go.Proofs.Ytoghpbjllompaaa.Rc
open Go.Ab
section
variable {H : List AO} {j jg : Nat} {sx : SV} {a : Int} {e : Fl}
theorem ok58x (ho : H[j]? = some (rfX sx a e)) (he : e.1 ≠ 0) (lo hi : Int) : Ok Try.prog 58 [rp j, i64 lo, i64 hi] H (.ret (i64 lo)) H := by
  have hj := getElem?_lt ho
  have e1 : objCells H j 0 = (rfX sx a e).cells := objCells_of (o := rfX sx a e) ho rfl
  refine ok_fn hm Try.func58 c58 (by simp [rp, SV.under, hj]) fun hcl => ?_
  simp -implicitDefEqProofs [i58, r58, rp, e1, rfX, he]
  exact cv_id
theorem ok59x (ho : H[j]? = some (rfX sx a e)) (he : e.1 ≠ 0) (lo hi : Int) : Ok Try.prog 59 [rp j, i64 lo, i64 hi] H (.ret (i64 lo)) H := by
  have hj := getElem?_lt ho
  have e1 : objCells H j 0 = (rfX sx a e).cells := objCells_of (o := rfX sx a e) ho rfl
  refine ok_fn hm Try.func59 c59 (by simp [rp, SV.under, hj]) fun hcl => ?_
  simp -implicitDefEqProofs [i59, r59, rp, e1, rfX, he]
  exact cv_id
theorem ok60x (ho : H[j]? = some (rfX sx a e)) (hg : jg < H.length) (he : e.1 ≠ 0) (d : Int) : Ok Try.prog 60 [rp j, rp jg, i64 d] H (.ret (.tup [])) H := by
  have hj := getElem?_lt ho
  have e1 : objCells H j 0 = (rfX sx a e).cells := objCells_of (o := rfX sx a e) ho rfl
  refine ok_fn hm Try.func60 c60 (by simp [rp, SV.under, hj, hg]) fun hcl => ?_
  simp -implicitDefEqProofs [i60, r60, rp, e1, rfX, he]
  exact cv_id
theorem ok61y (ho : H[j]? = some (rfX sx a e)) (he : e.1 ≠ 0) (c p : Int) : Ok Try.prog 61 [rp j, i64 c, i64 p] H (.ret (.tup [])) H := by
  have := ok61x ho (c, p)
  rw [if_neg he, set_same ho] at this
  exact this
end
end Go.Proofs.Ytoghpbjllompaaa.Rc

/- R6b -/
namespace Go.Proofs.Ytoghpbjllompaaa.Rc
open Go.Ab
section
variable {H : List AO}
theorem fin31e {H1 : List AO} {env : Env} {e : Fl} {sx : SV} {a : Int} (hcl : closed H) (he : e.1 ≠ 0) (hsx : sx = nl ∨ ∃ l, sx = .slc (byts l) l.length)
    (hat : ∀ i, i < H.length → H1[i]? = H[i]?) (hg : H1[H.length]? = some ⟨[i64 0, nl, nl], 25, 0, true⟩) (hf : H1[H.length + 1]? = some (flO (0, 0))) (hr : H1[H.length + 2]? = some (rfX sx a e)) (hlt : H.length + 3 < H1.length)
    (h2 : env.get 2 = rp H.length) (h3 : env.get 3 = rp (H.length + 1)) (h4 : env.get 4 = rp (H.length + 2)) (h5 : env.get 5 = rp (H.length + 3)) :
    X Try.prog Try.f31.ntmps drawB (icTl 4 i31) env H1 (FinP H.length r31 (RgP H (.error e))) := by
  have e1 : objCells H1 (H.length + 2) 0 = [sx, i64 a, i64 e.1, i64 e.2] := objCells_of (o := rfX sx a e) hr rfl
  simp only [rp] at h2 h3 h4 h5
  have h60 := ok60x (jg := H.length + 3) hr hlt he 0
  have h61 := fun p => ok61y hr he 4 p
  simp only [rp] at h60 h61
  have hsl : sx.vd = true ∧ sx.ug = sx ∧ sx.isSl = true ∧ sx.isCell = true := by
    rcases hsx with rfl | ⟨l, rfl⟩
    · exact ⟨rfl, rfl, rfl, rfl⟩
    · exact ⟨rfl, rfl, rfl, rfl⟩
  simp -implicitDefEqProofs [icTl, i31, r31, h2, h3, h4, h5]
  refine call_go h60 ?_
  simp -implicitDefEqProofs [h2, h3, h4, h5, e1, hsl.1, hsl.2.1, hsl.2.2.1, hsl.2.2.2, he]
  have eg : objCells H1 H.length 0 = [i64 0, nl, nl] := objCells_of (o := ⟨[i64 0, nl, nl], 25, 0, true⟩) hg rfl
  have ef : objCells H1 (H.length + 1) 0 = [i64 0, i64 0] := objCells_of (o := flO (0, 0)) hf rfl
  have sg : ∀ f : AO → AO, Ab.setObj H1 H.length f = H1.set H.length (f ⟨[i64 0, nl, nl], 25, 0, true⟩) := fun f => setObj_some hg f
  have ss : H1.set H.length ⟨[i64 0, nl, nl], 25, 0, true⟩ = H1 := set_same hg
  have sf : ∀ f : AO → AO, Ab.setObj H1 (H.length + 1) f = H1.set (H.length + 1) (f (flO (0, 0))) := fun f => setObj_some hf f
  have x1 : objCells (H1.set (H.length + 1) ⟨[i64 e.1, i64 e.2], 47, 0, true⟩) H.length 0 = [i64 0, nl, nl] := objCells_of (o := ⟨[i64 0, nl, nl], 25, 0, true⟩) (by rw [List.getElem?_set_ne (by omega)]; exact hg) rfl
  have x2 : objCells (H1.set (H.length + 1) ⟨[i64 e.1, i64 e.2], 47, 0, true⟩) (H.length + 1) 0 = [i64 e.1, i64 e.2] := objCells_of (o := ⟨[i64 e.1, i64 e.2], 47, 0, true⟩) (by rw [List.getElem?_set_self (by omega)]) rfl
  have fin : FinQ H.length (RgP H (.error e)) (.tup [.agg [i64 0, nl, nl], .agg [i64 e.1, i64 e.2]]) (H1.set (H.length + 1) ⟨[i64 e.1, i64 e.2], 47, 0, true⟩) := by
    obtain ⟨L, hL⟩ := pre_split (H := H) (H' := H1.set (H.length + 1) ⟨[i64 e.1, i64 e.2], 47, 0, true⟩) (by simp; omega) (fun i hi => by rw [List.getElem?_set_ne (by omega)]; exact hat i hi)
    rw [hL]
    refine ⟨_, H, ⟨rfl, rfl⟩, Cv.le (cv_drop rfl (Nat.le_refl _) hcl rfl) (le_tup (leL.cons (le_agg ?_) (leL.cons (SV.le.refl _) leL.nil)))⟩
    exact leL.cons (SV.le.refl _) (leL.cons le_nil (leL.cons le_nil leL.nil))
  by_cases hal : a < sx.slen
  · rw [if_pos hal]
    refine call_go (h61 _) ?_
    simp -implicitDefEqProofs [h2, h3, h4, h5, e1, he, eg, ef, sg, sf, ss, flO]
    rw [x1, x2]
    exact ⟨rfl, ⟨by simp, by simp⟩, fin⟩
  · rw [if_neg hal]
    simp -implicitDefEqProofs [h2, h3, h4, h5, e1, he, eg, ef, sg, sf, ss, flO]
    rw [x1, x2]
    exact ⟨rfl, ⟨by simp, by simp⟩, fin⟩
theorem loop31x {H1 : List AO} {sx : SV} {a : Int} {e : Fl} (hr : H1[H.length + 2]? = some (rfX sx a e)) (he : e.1 ≠ 0) {c : Int} {N : Nat} {K : XE → Env → List AO → Prop} {env : Env}
    (h2 : env.get 2 = rp H.length) (h3 : env.get 3 = rp (H.length + 1)) (h4 : env.get 4 = rp (H.length + 2)) (h5 : env.get 5 = rp (H.length + 3)) (h6 : env.get 6 = i64 c)
    (hk : ∀ env, env.get 2 = rp H.length → env.get 3 = rp (H.length + 1) → env.get 4 = rp (H.length + 2) → env.get 5 = rp (H.length + 3) → K (.exit 0) env H1) : LI Try.prog N drawB l31_0 env H1 K := by
  refine li_go hm l31_0.eq_1 ?_
  have er : objCells H1 (H.length + 2) 0 = [sx, i64 a, i64 e.1, i64 e.2] := objCells_of (o := rfX sx a e) hr rfl
  simp only [rp] at h2 h3 h4 h5
  by_cases hi : 0 < c
  · simp -implicitDefEqProofs [h2, h3, h4, h5, h6, er, he, hi]
    refine hk _ ?_ ?_ ?_ ?_ <;> simp [h2, h3, h4, h5, rp]
  · simp -implicitDefEqProofs [h2, h3, h4, h5, h6, er, he, hi]
    refine hk _ ?_ ?_ ?_ ?_ <;> simp [h2, h3, h4, h5, rp]
end
end Go.Proofs.Ytoghpbjllompaaa.Rc

/- R7a -/
namespace Go.Ab
theorem OkP.cvP {P : Program} {f : FuncId} {args : List SV} {H : List AO} {Pt Pt' : Out → List AO → Prop} (h : OkP P f args H Pt) (hr : ∀ r H1, Pt (.ret r) H1 → ∃ r' H', Pt' (.ret r') H' ∧ Cv H.length r H1 r' H')
    (hp : ∀ x H1, Pt (.pan x) H1 → Pt' (.pan x) H1) : OkP P f args H Pt' := by
  refine ⟨h.1, fun S vs hH hS hv => (h.2 S vs hH hS hv).mono ?_⟩
  rintro e w' ⟨out, H1, v, ρ', h0, h1, h2, h3⟩
  subst hH
  cases out with
  | ret r =>
    obtain ⟨r', H', k1, k2⟩ := hr r H1 h0
    obtain ⟨ρ2, g1, g2, g3⟩ := k2 ⟨ρ', H1, w'⟩ v rfl h2 h3.2
    exact ⟨.ret r', H', v, ρ2, k1, h1.trans g1, g2, h3.1, g3⟩
  | pan x => exact ⟨.pan x, H1, v, ρ', hp x H1 h0, h1, h2, h3⟩
theorem OkP.closed {P : Program} {f : FuncId} {args : List SV} {H : List AO} {Pt : Out → List AO → Prop} (h0 : ∀ (vs : Array Value) (w : World), (callFunc f vs).run P w = .ok (.enter f vs) w) (h : Go.Ab.closed H → OkP P f args H Pt) : OkP P f args H Pt :=
  ⟨h0, fun S vs hH hS hv => (h (by rw [← hH]; exact hS.closed)).2 S vs hH hS hv⟩
end Go.Ab
namespace Go.Proofs.Ytoghpbjllompaaa.Rc
open Go.Ab
def FrQ (H : List AO) (jr jg : Nat) (l : List Int) (pl : Int) (is : List (Int × Int)) (r : Except Fl (List Nd × Nat)) (o : Out) (H' : List AO) : Prop :=
  o = .ret (.tup []) ∧ match r with
  | .ok (ns, a') => Same H H' jr jg ∧ H'[jr]? = some (rfO l a' (0, 0)) ∧ H'[jg]? = some (gO pl (.slc (nds ns) ns.length) is)
  | .error e => PanF H jr jg l e H'
section
variable {H : List AO} {l : List Int} {jr jg a : Nat} {pl : Int} {is : List (Int × Int)}
theorem ok60t (hcl : closed H) (hoct : Oct l) (hl : l.length ≤ 100000) (hr : H[jr]? = some (rfO l a (0, 0))) (hg : H[jg]? = some (gO pl nl is)) (hne : jr ≠ jg) (ha : a ≤ l.length) {pn : Nat} (hpn : pl = pn) (hpl : pn ≤ 4) (his : is.length ≤ 200) (hkb : ∀ p ∈ is, 0 ≤ p.2 ∧ p.2 ≤ 60) :
    OkP Try.prog 60 [rp jr, rp jg, i64 0] H (FrQ H jr jg l pl is (treeR pl is l 42 0 0 a)) := by
  have hj := getElem?_lt hr
  have hjg := getElem?_lt hg
  have hT : FS (H.set jg (gO pl (.own H.length 0 0 6 0) is)) jr jg l pl is a 0 0 := ⟨by rw [List.getElem?_set_ne hne.symm]; exact hr, by rw [List.getElem?_set_self hjg]; simp, hne⟩
  have h60 := ok60 hoct hl hpn hpl his hkb 42 0 0 a 0 (H.set jg (gO pl (.own H.length 0 0 6 0) is)) [] [] (by omega) (by omega) ha rfl (fun s hs => by simp at hs) hT
  have hS : Same H (H.set jg (gO pl (.own H.length 0 0 6 0) is)) jr jg := Same.setg _
  have htell : Tell [] H [] (TF (H.set jg (gO pl (.own H.length 0 0 6 0) is)) [] 0 []) := by
    have := Tell.own0 (env := []) (H := H) (j := jg) (p := 1) (o := gO pl nl is) hg rfl rfl 74 6
    simpa [TF, gO] using this
  generalize treeR pl is l 42 0 0 a = q at *
  refine OkP.cvP (OkP.tell htell (by simp [TF]) h60) ?_ ?_
  · rintro r H1 ⟨hr', ho⟩
    cases hr'
    cases q with
    | error e => exact ⟨_, _, ⟨rfl, ho.same hS⟩, cv_id⟩
    | ok p =>
      obtain ⟨ns, a'⟩ := p
      obtain ⟨A', v', hs', hT', rfl⟩ := ho
      have hS2 := hS.trans hs'
      refine ⟨.tup [], A'.set jg (gO pl (.slc (nds ns) ns.length) is), ⟨rfl, hS2.trans (Same.setg _), by rw [List.getElem?_set_ne hne.symm]; exact hT'.r, by rw [List.getElem?_set_self (getElem?_lt hT'.g)]⟩, ?_⟩
      have hmap : (gO pl (.own A'.length 0 (0 + ns.length) 6 v') is).cells.map (SV.fz A'.length [] [⟨nds ns, 74, v', true⟩] 4) = (gO pl (.slc (nds ns) ns.length) is).cells := by
        simp [gO, nds_len, Nat.mul_comm]
        exact List.take_of_length_le (by rw [nds_len]; omega)
      have hcl' := closed_iff.1 hcl
      have k := cv_noneM (n0 := H.length) (Hx := TF A' ([] ++ nds ns) v' []) (r := .tup []) 4 (H0 := A') (L := [⟨nds ns, 74, v', true⟩]) (by simp [TF]) (by rw [hS2.len]; exact Nat.le_refl _)
        (Refz.one (j := jg) (o := gO pl (.own A'.length 0 (0 + ns.length) 6 v') is) (fun i o hi ho s hs => by
          by_cases h2 : i = jr
          · subst h2
            rw [hT'.r] at ho; cases ho
            simp only [rfO, List.mem_cons, List.not_mem_nil, or_false] at hs
            rcases hs with rfl | rfl | rfl | rfl <;> simp
          · rw [hS2.at_ i h2 hi] at ho
            have := cl_get hcl' ho s hs
            rw [hS2.len]; exact this) hT'.g rfl (by
          rw [hmap]
          intro s hs
          simp only [gO, List.mem_cons, List.not_mem_nil, or_false] at hs
          rcases hs with rfl | rfl | rfl <;> rfl))
      rw [hmap] at k
      simpa [gO] using k
  · rintro x H1 ⟨hx, _⟩
    cases hx
theorem fin31h {H1 : List AO} {env : Env} {e : Fl} {sx : SV} {a : Int} (hcl : closed H) (he : e.1 ≠ 0) (hat : ∀ i, i < H.length → H1[i]? = H[i]?) (hg : H1[H.length]? = some ⟨[i64 0, nl, nl], 25, 0, true⟩) (hf : H1[H.length + 1]? = some (flO (0, 0)))
    (hr : H1[H.length + 2]? = some (rfX sx a e)) (hlt : H.length + 3 < H1.length) (h2 : env.get 2 = rp H.length) (h3 : env.get 3 = rp (H.length + 1)) (h4 : env.get 4 = rp (H.length + 2)) :
    X Try.prog Try.f31.ntmps drawB (icTl 7 i31) env H1 (FinP H.length r31 (RgP H (.error e))) := by
  have e1 : objCells H1 (H.length + 2) 0 = [sx, i64 a, i64 e.1, i64 e.2] := objCells_of (o := rfX sx a e) hr rfl
  have eg : objCells H1 H.length 0 = [i64 0, nl, nl] := objCells_of (o := ⟨[i64 0, nl, nl], 25, 0, true⟩) hg rfl
  have ef : objCells H1 (H.length + 1) 0 = [i64 0, i64 0] := objCells_of (o := flO (0, 0)) hf rfl
  have sg : ∀ f : AO → AO, Ab.setObj H1 H.length f = H1.set H.length (f ⟨[i64 0, nl, nl], 25, 0, true⟩) := fun f => setObj_some hg f
  have ss : H1.set H.length ⟨[i64 0, nl, nl], 25, 0, true⟩ = H1 := set_same hg
  have sf : ∀ f : AO → AO, Ab.setObj H1 (H.length + 1) f = H1.set (H.length + 1) (f (flO (0, 0))) := fun f => setObj_some hf f
  have x1 : objCells (H1.set (H.length + 1) ⟨[i64 e.1, i64 e.2], 47, 0, true⟩) H.length 0 = [i64 0, nl, nl] := objCells_of (o := ⟨[i64 0, nl, nl], 25, 0, true⟩) (by rw [List.getElem?_set_ne (by omega)]; exact hg) rfl
  have x2 : objCells (H1.set (H.length + 1) ⟨[i64 e.1, i64 e.2], 47, 0, true⟩) (H.length + 1) 0 = [i64 e.1, i64 e.2] := objCells_of (o := ⟨[i64 e.1, i64 e.2], 47, 0, true⟩) (by rw [List.getElem?_set_self (by omega)]) rfl
  have fin : FinQ H.length (RgP H (.error e)) (.tup [.agg [i64 0, nl, nl], .agg [i64 e.1, i64 e.2]]) (H1.set (H.length + 1) ⟨[i64 e.1, i64 e.2], 47, 0, true⟩) := by
    obtain ⟨L, hL⟩ := pre_split (H := H) (H' := H1.set (H.length + 1) ⟨[i64 e.1, i64 e.2], 47, 0, true⟩) (by simp; omega) (fun i hi => by rw [List.getElem?_set_ne (by omega)]; exact hat i hi)
    rw [hL]
    refine ⟨_, H, ⟨rfl, rfl⟩, Cv.le (cv_drop rfl (Nat.le_refl _) hcl rfl) (le_tup (leL.cons (le_agg ?_) (leL.cons (SV.le.refl _) leL.nil)))⟩
    exact leL.cons (SV.le.refl _) (leL.cons le_nil (leL.cons le_nil leL.nil))
  simp only [rp] at h2 h3 h4
  simp -implicitDefEqProofs [icTl, i31, r31, h2, h3, h4, e1, he, eg, ef, sg, sf, ss, flO]
  rw [x1, x2]
  exact ⟨rfl, ⟨by simp, by simp⟩, fin⟩
theorem fin31g {H1 : List AO} {env : Env} {e : Fl} {sx : SV} {a : Int} (hcl : closed H) (he : e.1 ≠ 0) (hat : ∀ i, i < H.length → H1[i]? = H[i]?) (hg : H1[H.length]? = some ⟨[i64 0, nl, nl], 25, 0, true⟩) (hf : H1[H.length + 1]? = some (flO (0, 0)))
    (hr : H1[H.length + 2]? = some (rfX sx a e)) (hlt : H.length + 3 < H1.length) (h2 : env.get 2 = rp H.length) (h3 : env.get 3 = rp (H.length + 1)) (h4 : env.get 4 = rp (H.length + 2)) :
    X Try.prog Try.f31.ntmps drawB (icTl 6 i31) env H1 (FinP H.length r31 (RgP H (.error e))) := by
  have e1 : objCells H1 (H.length + 2) 0 = [sx, i64 a, i64 e.1, i64 e.2] := objCells_of (o := rfX sx a e) hr rfl
  have eg : objCells H1 H.length 0 = [i64 0, nl, nl] := objCells_of (o := ⟨[i64 0, nl, nl], 25, 0, true⟩) hg rfl
  have ef : objCells H1 (H.length + 1) 0 = [i64 0, i64 0] := objCells_of (o := flO (0, 0)) hf rfl
  have sg : ∀ f : AO → AO, Ab.setObj H1 H.length f = H1.set H.length (f ⟨[i64 0, nl, nl], 25, 0, true⟩) := fun f => setObj_some hg f
  have ss : H1.set H.length ⟨[i64 0, nl, nl], 25, 0, true⟩ = H1 := set_same hg
  have sf : ∀ f : AO → AO, Ab.setObj H1 (H.length + 1) f = H1.set (H.length + 1) (f (flO (0, 0))) := fun f => setObj_some hf f
  have x1 : objCells (H1.set (H.length + 1) ⟨[i64 e.1, i64 e.2], 47, 0, true⟩) H.length 0 = [i64 0, nl, nl] := objCells_of (o := ⟨[i64 0, nl, nl], 25, 0, true⟩) (by rw [List.getElem?_set_ne (by omega)]; exact hg) rfl
  have x2 : objCells (H1.set (H.length + 1) ⟨[i64 e.1, i64 e.2], 47, 0, true⟩) (H.length + 1) 0 = [i64 e.1, i64 e.2] := objCells_of (o := ⟨[i64 e.1, i64 e.2], 47, 0, true⟩) (by rw [List.getElem?_set_self (by omega)]) rfl
  have fin : FinQ H.length (RgP H (.error e)) (.tup [.agg [i64 0, nl, nl], .agg [i64 e.1, i64 e.2]]) (H1.set (H.length + 1) ⟨[i64 e.1, i64 e.2], 47, 0, true⟩) := by
    obtain ⟨L, hL⟩ := pre_split (H := H) (H' := H1.set (H.length + 1) ⟨[i64 e.1, i64 e.2], 47, 0, true⟩) (by simp; omega) (fun i hi => by rw [List.getElem?_set_ne (by omega)]; exact hat i hi)
    rw [hL]
    refine ⟨_, H, ⟨rfl, rfl⟩, Cv.le (cv_drop rfl (Nat.le_refl _) hcl rfl) (le_tup (leL.cons (le_agg ?_) (leL.cons (SV.le.refl _) leL.nil)))⟩
    exact leL.cons (SV.le.refl _) (leL.cons le_nil (leL.cons le_nil leL.nil))
  simp only [rp] at h2 h3 h4
  simp -implicitDefEqProofs [icTl, i31, r31, h2, h3, h4, e1, he, eg, ef, sg, sf, ss, flO]
  rw [x1, x2]
  exact ⟨rfl, ⟨by simp, by simp⟩, fin⟩
/-- From the check that nothing is left on, after a fault. -/
theorem fin31f {H1 : List AO} {env : Env} {e : Fl} {l : List Int} {a : Nat} (hcl : closed H) (he : e.1 ≠ 0) (hat : ∀ i, i < H.length → H1[i]? = H[i]?) (hg : H1[H.length]? = some ⟨[i64 0, nl, nl], 25, 0, true⟩) (hf : H1[H.length + 1]? = some (flO (0, 0)))
    (hr : H1[H.length + 2]? = some (rfO l a e)) (hlt : H.length + 3 < H1.length) (h2 : env.get 2 = rp H.length) (h3 : env.get 3 = rp (H.length + 1)) (h4 : env.get 4 = rp (H.length + 2)) :
    X Try.prog Try.f31.ntmps drawB (icTl 5 i31) env H1 (FinP H.length r31 (RgP H (.error e))) := by
  have e1 : objCells H1 (H.length + 2) 0 = [.slc (byts l) l.length, i64 a, i64 e.1, i64 e.2] := objCells_of (o := rfO l a e) hr rfl
  have h61 := fun p => ok61n hr he 4 p
  have htl : icTl 5 i31 = .seq (match icTl 5 i31 with | .seq a _ => a | _ => .skip) (icTl 6 i31) := rfl
  rw [htl]
  simp only [rp] at h2 h3 h4 h61
  have fin := fun env (k2 : env.get 2 = rp H.length) (k3 : env.get 3 = rp (H.length + 1)) (k4 : env.get 4 = rp (H.length + 2)) => fin31g (env := env) hcl he hat hg hf (by rw [← rfX_eq] at hr; exact hr) hlt k2 k3 k4
  generalize icTl 6 i31 = t at *
  simp -implicitDefEqProofs [icTl, i31, h2, h3, h4, e1]
  by_cases h5 : a < l.length
  · have h5' : (a : Int) < l.length := by omega
    simp -implicitDefEqProofs [h5, h5', h2, h3, h4, e1]
    refine call_go (h61 _) ?_
    simp -implicitDefEqProofs
    refine fin _ ?_ ?_ ?_ <;> simp [h2, h3, h4, rp]
  · have h5' : ¬ (a : Int) < l.length := by omega
    simp -implicitDefEqProofs [h5, h5', h2, h3, h4, e1]
    refine fin _ ?_ ?_ ?_ <;> simp [h2, h3, h4, rp]
theorem fin31s {H1 : List AO} {env : Env} {l : List Int} {a : Nat} {g : Gm} (hcl : closed H) (hl : l.length ≤ 100000) (hat : ∀ i, i < H.length → H1[i]? = H[i]?) (hg : H1[H.length]? = some ⟨[i64 0, nl, nl], 25, 0, true⟩) (hf : H1[H.length + 1]? = some (flO (0, 0)))
    (hr : H1[H.length + 2]? = some (rfO l a (0, 0))) (h0 : H1[H.length + 3]? = some (gO g.pl (.slc (nds g.ns) g.ns.length) g.is)) (h2 : env.get 2 = rp H.length) (h3 : env.get 3 = rp (H.length + 1)) (h4 : env.get 4 = rp (H.length + 2)) (h5 : env.get 5 = rp (H.length + 3)) :
    X Try.prog Try.f31.ntmps drawB (icTl 5 i31) env H1 (FinP H.length r31 (RgP H (if a < l.length then .error (4, (a : Int)) else if g.formE = 0 then .ok g else .error (g.formE, (l.length : Int))))) := by
  have hlt := getElem?_lt h0
  have e1 : objCells H1 (H.length + 2) 0 = [.slc (byts l) l.length, i64 a, i64 0, i64 0] := objCells_of (o := rfO l a (0, 0)) hr rfl
  have eg : objCells H1 (H.length + 3) 0 = [i64 g.pl, .slc (nds g.ns) g.ns.length, .slc (infs g.is) g.is.length] := objCells_of (o := gO g.pl (.slc (nds g.ns) g.ns.length) g.is) h0 rfl
  have htl : icTl 5 i31 = .seq (match icTl 5 i31 with | .seq a _ => a | _ => .skip) (icTl 6 i31) := rfl
  have ht6 : icTl 6 i31 = .seq (match icTl 6 i31 with | .seq a _ => a | _ => .skip) (icTl 7 i31) := rfl
  simp only [rp] at h2 h3 h4 h5
  by_cases hal : a < l.length
  · have hal' : (a : Int) < l.length := by omega
    rw [if_pos hal, htl]
    have h61 := ok61 hr (4, (a : Int))
    have fin := fun env (k2 : env.get 2 = rp H.length) (k3 : env.get 3 = rp (H.length + 1)) (k4 : env.get 4 = rp (H.length + 2)) => fin31g (H1 := H1.set (H.length + 2) (rfO l a (4, (a : Int)))) (sx := .slc (byts l) l.length) (a := a) (e := (4, (a : Int))) (env := env) hcl (by simp) (fun i hi => by rw [List.getElem?_set_ne (by omega)]; exact hat i hi)
      (by rw [List.getElem?_set_ne (by omega)]; exact hg) (by rw [List.getElem?_set_ne (by omega)]; exact hf) (by rw [List.getElem?_set_self (by omega)]; rfl) (by simpa using hlt) k2 k3 k4
    generalize icTl 6 i31 = t at *
    simp only [rp] at h61
    simp -implicitDefEqProofs [icTl, i31, h2, h3, h4, e1, hal, hal']
    refine call_go h61 ?_
    simp -implicitDefEqProofs
    refine fin _ ?_ ?_ ?_ <;> simp [h2, h3, h4, rp]
  · have hal' : ¬ (a : Int) < l.length := by omega
    rw [if_neg hal]
    have h41 := ok41 (H := H1) (g := g)
    rw [← form_eq] at h41
    by_cases hfe : g.formE = 0
    · rw [if_pos hfe]
      rw [hfe] at h41
      have egg : objCells H1 H.length 0 = [i64 0, nl, nl] := objCells_of (o := ⟨[i64 0, nl, nl], 25, 0, true⟩) hg rfl
      have eff : objCells H1 (H.length + 1) 0 = [i64 0, i64 0] := objCells_of (o := flO (0, 0)) hf rfl
      have sgg : ∀ f : AO → AO, Ab.setObj H1 H.length f = H1.set H.length (f ⟨[i64 0, nl, nl], 25, 0, true⟩) := fun f => setObj_some hg f
      simp -implicitDefEqProofs [icTl, i31, r31, h2, h3, h4, h5, e1, eg, hal, hal']
      refine call_go (by simpa [Gm.cells] using h41) ?_
      have e2 : objCells (H1.set H.length ⟨[i64 g.pl, .slc (nds g.ns) g.ns.length, .slc (infs g.is) g.is.length], 25, 0, true⟩) (H.length + 1) 0 = [i64 0, i64 0] := objCells_of (o := flO (0, 0)) (by rw [List.getElem?_set_ne (by omega)]; exact hf) rfl
      have e3 : objCells (H1.set H.length ⟨[i64 g.pl, .slc (nds g.ns) g.ns.length, .slc (infs g.is) g.is.length], 25, 0, true⟩) H.length 0 = [i64 g.pl, .slc (nds g.ns) g.ns.length, .slc (infs g.is) g.is.length] := objCells_of (o := ⟨[i64 g.pl, .slc (nds g.ns) g.ns.length, .slc (infs g.is) g.is.length], 25, 0, true⟩) (by rw [List.getElem?_set_self (by omega)]) rfl
      have sf : ∀ f : AO → AO, Ab.setObj (H1.set H.length ⟨[i64 g.pl, .slc (nds g.ns) g.ns.length, .slc (infs g.is) g.is.length], 25, 0, true⟩) (H.length + 1) f = (H1.set H.length ⟨[i64 g.pl, .slc (nds g.ns) g.ns.length, .slc (infs g.is) g.is.length], 25, 0, true⟩).set (H.length + 1) (f (flO (0, 0))) := fun f => setObj_some (by rw [List.getElem?_set_ne (by omega)]; exact hf) f
      have hfs : (H1.set H.length ⟨[i64 g.pl, .slc (nds g.ns) g.ns.length, .slc (infs g.is) g.is.length], 25, 0, true⟩).set (H.length + 1) (flO (0, 0)) = H1.set H.length ⟨[i64 g.pl, .slc (nds g.ns) g.ns.length, .slc (infs g.is) g.is.length], 25, 0, true⟩ := set_same (by rw [List.getElem?_set_ne (by omega)]; exact hf)
      simp -implicitDefEqProofs [h2, h3, h4, h5, e1, eg, sgg]
      have sf2 : ∀ n c, (⟨i64 0 :: i64 0 :: c, n, 0, true⟩ : AO) = ⟨i64 0 :: i64 0 :: c, n, 0, true⟩ := fun _ _ => rfl
      rw [sf]
      simp only [flO] at hfs ⊢
      simp only [List.drop_succ_cons, List.drop_zero, hfs, egg, e2, e3]
      refine ⟨by simp, by simp, ⟨by simp, by simp⟩, ?_⟩
      obtain ⟨L, hL⟩ := pre_split (H := H) (H' := H1.set H.length ⟨[i64 g.pl, .slc (nds g.ns) g.ns.length, .slc (infs g.is) g.is.length], 25, 0, true⟩) (by simp; omega) (fun i hi => by rw [List.getElem?_set_ne (by omega)]; exact hat i hi)
      rw [hL]
      refine ⟨_, H, ⟨rfl, rfl⟩, cv_drop rfl (Nat.le_refl _) hcl ?_⟩
      simp [SV.under, SV.underL, nds_under, infs_under]
    · rw [if_neg hfe]
      have h61 := ok61 hr (g.formE, (l.length : Int))
      have fin := fun env (k2 : env.get 2 = rp H.length) (k3 : env.get 3 = rp (H.length + 1)) (k4 : env.get 4 = rp (H.length + 2)) => fin31h (H1 := H1.set (H.length + 2) (rfO l a (g.formE, (l.length : Int)))) (sx := .slc (byts l) l.length) (a := a) (e := (g.formE, (l.length : Int))) (env := env) hcl hfe (fun i hi => by rw [List.getElem?_set_ne (by omega)]; exact hat i hi)
        (by rw [List.getElem?_set_ne (by omega)]; exact hg) (by rw [List.getElem?_set_ne (by omega)]; exact hf) (by rw [List.getElem?_set_self (by omega)]; rfl) (by simpa using hlt) k2 k3 k4
      have ht7 : icTl 5 i31 = .seq (match icTl 5 i31 with | .seq a _ => a | _ => .skip) (.seq (match icTl 6 i31 with | .seq a _ => a | _ => .skip) (icTl 7 i31)) := rfl
      rw [ht7]
      generalize icTl 7 i31 = t at *
      simp only [rp] at h61
      simp -implicitDefEqProofs [icTl, i31, h2, h3, h4, h5, e1, eg, hal, hal']
      refine call_go (by simpa [Gm.cells] using h41) ?_
      simp -implicitDefEqProofs [h2, h3, h4, h5, e1, eg, hfe]
      refine call_go h61 ?_
      simp -implicitDefEqProofs
      refine fin _ ?_ ?_ ?_ <;> simp [h2, h3, h4, rp]
end
end Go.Proofs.Ytoghpbjllompaaa.Rc

/- R7 -/
namespace Go.Proofs.Ytoghpbjllompaaa.Rc
open Go.Ab
section
variable {H : List AO}
theorem opnR_ok {b : List Int} {c : Int} {l : List Int} (ho : Oct b) (h : opnR b c = .ok l) : l.length ≤ 100000 ∧ 3 ≤ l.length ∧ Oct l := by
  unfold opnR at h
  split at h
  · cases h
  · split at h
    · cases h
    · split at h
      · cases h
      · split at h
        · cases h
        · cases h
          exact ⟨by simp; omega, by simp; omega, fun x hx => ho x (List.mem_of_mem_take hx)⟩
theorem sJ_tell (hcl : closed H) {l : List Int} {a : Nat} {pl : Int} {is : List (Int × Int)} {M : List AO} :
    Tell [] (sJ H l a (0, 0) pl is M) [] (H ++ ⟨[i64 0, nl, nl], 25, 0, true⟩ :: flO (0, 0) :: rfO l a (0, 0) :: gO pl nl is :: (AO.gv (H.length + 4) is.length (infs is) 1 (AO.dead ⟨infs is, 72, is.length, true⟩)) :: M.map (AO.gv (H.length + 4) is.length (infs is) 1)) := by
  have il := infs_len is
  have e1 : AO.gv (H.length + 4) is.length (infs is) 1 ⟨[i64 pl, nl, .own (H.length + 4) 0 is.length 2 is.length], 25, 0, true⟩ = gO pl nl is := by
    simp [AO.gv, gO, il, Nat.mul_comm]
    exact List.take_of_length_le (by omega)
  have e2 : AO.gv (H.length + 4) is.length (infs is) 1 (flO (0, 0)) = flO (0, 0) := by simp [AO.gv, flO]
  have e3 : AO.gv (H.length + 4) is.length (infs is) 1 (rfO l a (0, 0)) = rfO l a (0, 0) := by simp [AO.gv, rfO]
  have e4 : AO.gv (H.length + 4) is.length (infs is) 1 ⟨[i64 0, nl, nl], 25, 0, true⟩ = ⟨[i64 0, nl, nl], 25, 0, true⟩ := by simp [AO.gv]
  have := Tell.give (env := []) (L := ⟨[i64 0, nl, nl], 25, 0, true⟩ :: flO (0, 0) :: rfO l a (0, 0) :: ⟨[i64 pl, nl, .own (H.length + 4) 0 is.length 2 is.length], 25, 0, true⟩ :: ⟨infs is, 72, is.length, true⟩ :: M) hcl 4 1 (o := ⟨infs is, 72, is.length, true⟩) rfl rfl
  have h2 : Tell [] (sJ H l a (0, 0) pl is M) [] (H ++ AO.gv (H.length + 4) is.length (infs is) 1 ⟨[i64 0, nl, nl], 25, 0, true⟩ :: AO.gv (H.length + 4) is.length (infs is) 1 (flO (0, 0)) :: AO.gv (H.length + 4) is.length (infs is) 1 (rfO l a (0, 0)) :: AO.gv (H.length + 4) is.length (infs is) 1 ⟨[i64 pl, nl, .own (H.length + 4) 0 is.length 2 is.length], 25, 0, true⟩ :: (AO.gv (H.length + 4) is.length (infs is) 1 (AO.dead ⟨infs is, 72, is.length, true⟩)) :: M.map (AO.gv (H.length + 4) is.length (infs is) 1)) := this
  rw [e1, e2, e3, e4] at h2
  exact h2
theorem fin31m (hcl : closed H) {l : List Int} {a : Nat} {pl : Int} {is : List (Int × Int)} {M : List AO} {env : Env} (hl : l.length ≤ 100000) (hoct : Oct l) (ha : a ≤ l.length) (hpl : 1 ≤ pl ∧ pl ≤ 4) (his : is.length ≤ 200) (hkb : ∀ p ∈ is, 0 ≤ p.2 ∧ p.2 ≤ 60)
    (h2 : env.get 2 = rp H.length) (h3 : env.get 3 = rp (H.length + 1)) (h4 : env.get 4 = rp (H.length + 2)) (h5 : env.get 5 = rp (H.length + 3)) :
    X Try.prog Try.f31.ntmps drawB (icTl 4 i31) env (sJ H l a (0, 0) pl is M) (FinP H.length r31 (RgP H (match treeR pl is l 42 0 0 a with
      | .error e => .error e
      | .ok (ns, a4) => if a4 < l.length then .error (4, a4) else if Gm.formE ⟨pl, ns, is⟩ = 0 then .ok ⟨pl, ns, is⟩ else .error (Gm.formE ⟨pl, ns, is⟩, l.length)))) := by
  have her := fun e => treeR_err (pl := pl) (is := is) (l := l) 42 0 0 a e
  have fe := @fin31f H
  have fs := @fin31s H
  have ht4 : icTl 4 i31 = .seq (match icTl 4 i31 with | .seq a _ => a | _ => .skip) (icTl 5 i31) := rfl
  rw [ht4]
  generalize icTl 5 i31 = t at *
  obtain ⟨pn, rfl⟩ : ∃ n : Nat, pl = n := ⟨pl.toNat, by omega⟩
  have hcl2 : ∀ P : Prop, (closed (sJ H l a (0, 0) (pn : Int) is M) → P) → True := fun _ _ => trivial
  have h60 : closed (H ++ ⟨[i64 0, nl, nl], 25, 0, true⟩ :: flO (0, 0) :: rfO l a (0, 0) :: gO (pn : Int) nl is :: (AO.gv (H.length + 4) is.length (infs is) 1 (AO.dead ⟨infs is, 72, is.length, true⟩)) :: M.map (AO.gv (H.length + 4) is.length (infs is) 1)) → _ := fun h => ok60t (jr := H.length + 2) (jg := H.length + 3) (l := l) (a := a) (pl := (pn : Int)) (is := is) h
    hoct hl (by simp) (by simp) (by omega) ha rfl (by omega) his hkb
  have h60' := OkP.tell (sJ_tell hcl) (by simp [sJ]) (OkP.closed (ok60x (H := [rfX nl 0 (1, 0)]) (j := 0) (jg := 0) (sx := nl) (a := 0) (e := (1, 0)) rfl (by simp) (by decide) 0).1 h60)
  generalize treeR (pn : Int) is l 42 0 0 a = q at *
  simp only [rp] at h2 h3 h4 h5 h60'
  simp -implicitDefEqProofs [icTl, i31, h2, h3, h4, h5]
  refine call_goP h60' ?_
  rintro o H' ⟨rfl, ho⟩
  cases q with
  | error e =>
    simp -implicitDefEqProofs
    obtain ⟨a9, hra⟩ := ho.r
    refine fe (l := l) (a := a9) hcl (her e rfl) (fun i hi => ?_) ?_ ?_ hra ?_ ?_ ?_ ?_
    · rw [ho.at_ i (by simp; omega) (by omega) (by omega)]; simp [List.getElem?_append_left hi]
    · rw [ho.at_ _ (by simp) (by omega) (by omega)]; simp
    · rw [ho.at_ _ (by simp) (by omega) (by omega)]; simp
    · have := ho.len; simp at this; omega
    all_goals simp [rp, h2, h3, h4]
  | ok p =>
    obtain ⟨ns, a4⟩ := p
    obtain ⟨hs, hr, hg⟩ := ho
    simp -implicitDefEqProofs
    refine fs (g := ⟨pn, ns, is⟩) hcl hl (fun i hi => ?_) ?_ ?_ hr hg ?_ ?_ ?_ ?_
    · rw [hs.at_ i (by omega) (by omega)]; simp [List.getElem?_append_left hi]
    · rw [hs.at_ _ (by omega) (by omega)]; simp
    · rw [hs.at_ _ (by omega) (by omega)]; simp
    all_goals simp [rp, h2, h3, h4, h5]
theorem ok31 {b : List Int} (ho : Oct b) (hlb : b.length < 4611686018427387904) : OkP Try.prog 31 [.slc (byts b) b.length] H (RgP H (readG b)) := by
  refine okP_fn hm Try.func31 c31 (by simp) fun hcl => ?_
  have h57 := ok57 (H := H ++ [⟨[i64 0, nl, nl], 25, 0, true⟩, flO (0, 0)]) ho hlb 71
  have her := fun e => opnR_err (b := b) (c := 71) (e := e)
  unfold readG
  generalize hqq : opnR b 71 = q at *
  simp only [flO] at h57
  have fe := @fin31e H
  have fm := @fin31m H
  have hd : i31 = .seq (match icTl 0 i31 with | .seq a _ => a | _ => .skip) (.seq (match icTl 1 i31 with | .seq a _ => a | _ => .skip) (.seq (match icTl 2 i31 with | .seq a _ => a | _ => .skip) (.seq (match icTl 3 i31 with | .seq a _ => a | _ => .skip) (icTl 4 i31)))) := rfl
  rw [hd]
  generalize icTl 4 i31 = t at *
  simp -implicitDefEqProofs [icTl, i31]
  refine call_goP h57 ?_
  rintro o H' ⟨rfl, ho'⟩
  cases q with
  | error e =>
    obtain ⟨sx, ax, hsx, rfl⟩ := ho'
    have hne := her e rfl
    simp -implicitDefEqProofs [rp]
    refine call_go (by simpa [rp] using ok58x (sx := sx) (a := ax) (e := e) (H := H ++ [⟨[i64 0, nl, nl], 25, 0, true⟩, ⟨[i64 0, i64 0], 47, 0, true⟩, rfX sx ax e]) (j := H.length + 2) (by simp) hne 1 4) ?_
    simp -implicitDefEqProofs [rp]
    refine And.intro rfl (call_go (by simpa [rp] using ok59x (sx := sx) (a := ax) (e := e) (H := H ++ [⟨[i64 0, nl, nl], 25, 0, true⟩, ⟨[i64 0, i64 0], 47, 0, true⟩, rfX sx ax e, ⟨[i64 1, nl, nl], 25, 0, true⟩]) (j := H.length + 2) (by simp) hne 0 200) ?_)
    simp -implicitDefEqProofs [rp]
    refine loop31x (H := H) (sx := sx) (a := ax) (e := e) (by simp) hne (c := 0) ?_ ?_ ?_ ?_ ?_ (fun env k2 k3 k4 k5 => ?_)
    · simp [rp]
    · simp [rp]
    · simp [rp]
    · simp [rp]
    · simp [rp]
    · simp only [if_true]
      have := fe (H1 := H ++ [⟨[i64 0, nl, nl], 25, 0, true⟩, ⟨[i64 0, i64 0], 47, 0, true⟩, rfX sx ax e, ⟨[i64 1, nl, nl], 25, 0, true⟩]) (sx := sx) (a := ax) hcl hne hsx (fun i hi => List.getElem?_append_left hi) (by simp) (by simp [flO]) (by simp) (by simp) k2 k3 k4 k5
      exact this
  | ok l =>
    subst ho'
    have hl : l.length ≤ 100000 ∧ 3 ≤ l.length ∧ Oct l := opnR_ok ho hqq
    have h58 := ok58 (H := H ++ [⟨[i64 0, nl, nl], 25, 0, true⟩, ⟨[i64 0, i64 0], 47, 0, true⟩, rfO l 3 (0, 0)]) (j := H.length + 2) (l := l) (a := 3) (by simp) hl.2.2 hl.1 hl.2.1 1 4
    have hnx := fun v a' h => octR_next (l := l) (lo := 1) (hi := 4) (a := 3) (a' := a') (n := v) h
    have her := fun e => octR_err (l := l) (lo := 1) (hi := 4) (a := 3) (e := e)
    simp only []
    generalize octR l 1 4 3 = q at *
    simp only [rp] at h58
    simp -implicitDefEqProofs [rp]
    refine call_goP h58 ?_
    rintro o H' hp
    cases q with
    | error e =>
      obtain ⟨rfl, rfl⟩ := hp
      have hne := her e rfl
      simp -implicitDefEqProofs [rp]
      refine And.intro rfl (call_go (by simpa [rp] using ok59n (l := l) (a := 3) (e := e) (H := H ++ [⟨[i64 0, nl, nl], 25, 0, true⟩, ⟨[i64 0, i64 0], 47, 0, true⟩, rfO l 3 e, ⟨[i64 1, nl, nl], 25, 0, true⟩]) (j := H.length + 2) (by simp) hne 0 200) ?_)
      simp -implicitDefEqProofs [rp]
      refine loop31x (H := H) (sx := .slc (byts l) l.length) (a := (3 : Nat)) (e := e) (by simp [rfX, rfO]) hne (c := 0) (by simp [rp]) (by simp [rp]) (by simp [rp]) (by simp [rp]) (by simp [rp]) (fun env k2 k3 k4 k5 => ?_)
      simp only [if_true]
      have := fe (H1 := H ++ [⟨[i64 0, nl, nl], 25, 0, true⟩, ⟨[i64 0, i64 0], 47, 0, true⟩, rfO l 3 e, ⟨[i64 1, nl, nl], 25, 0, true⟩]) (sx := .slc (byts l) l.length) (a := (3 : Nat)) hcl hne (.inr ⟨l, rfl⟩) (fun i hi => List.getElem?_append_left hi) (by simp) (by simp [flO]) (by simp [rfX, rfO]) (by simp) k2 k3 k4 k5
      exact this
    | ok p =>
      obtain ⟨pl, a1⟩ := p
      obtain ⟨rfl, rfl⟩ := hp
      have hn := hnx pl a1 rfl
      have h59 := ok59 (H := H ++ [⟨[i64 0, nl, nl], 25, 0, true⟩, ⟨[i64 0, i64 0], 47, 0, true⟩, rfO l a1 (0, 0), ⟨[i64 pl, nl, nl], 25, 0, true⟩]) (j := H.length + 2) (l := l) (a := a1) (by simp) hl.2.2 hl.1 hn.2.1 0 200
      have hnx := fun v a' h => numR_next (l := l) (lo := 0) (hi := 200) (a := a1) (a' := a') (n := v) h hn.2.1
      have hrg := fun v a' h => numR_rng (l := l) (lo := 0) (hi := 200) (a := a1) (a' := a') (n := v) h
      have her := fun e => numR_err (l := l) (lo := 0) (hi := 200) (a := a1) (e := e)
      simp only []
      generalize numR l 0 200 a1 = q at *
      simp only [rp] at h59
      simp -implicitDefEqProofs [rp]
      refine And.intro rfl (call_goP h59 ?_)
      rintro o H' hp
      cases q with
      | error e =>
        obtain ⟨rfl, rfl⟩ := hp
        have hne := her e rfl
        simp -implicitDefEqProofs [rp]
        refine loop31x (H := H) (sx := .slc (byts l) l.length) (a := a1) (e := e) (by simp [rfX, rfO]) hne (c := 0) (by simp [rp]) (by simp [rp]) (by simp [rp]) (by simp [rp]) (by simp [rp]) (fun env k2 k3 k4 k5 => ?_)
        simp only [if_true]
        have := fe (H1 := H ++ [⟨[i64 0, nl, nl], 25, 0, true⟩, ⟨[i64 0, i64 0], 47, 0, true⟩, rfO l a1 e, ⟨[i64 pl, nl, nl], 25, 0, true⟩]) (sx := .slc (byts l) l.length) (a := a1) hcl hne (.inr ⟨l, rfl⟩) (fun i hi => List.getElem?_append_left hi) (by simp) (by simp [flO]) (by simp [rfX, rfO]) (by simp) k2 k3 k4 k5
        exact this
      | ok p =>
        obtain ⟨n, a2⟩ := p
        obtain ⟨rfl, rfl⟩ := hp
        have hn2 := hnx n a2 rfl
        have hr2 := hrg n a2 rfl
        obtain ⟨n, rfl⟩ : ∃ k : Nat, n = k := ⟨n.toNat, by omega⟩
        simp only [Int.toNat_natCast]
        have her := fun e => infsR_err (pl := pl) (l := l) n a2 e
        have hnx := fun is a' => infsR_next (pl := pl) (l := l) n a2 is a' hn2.2
        obtain ⟨q, hq⟩ : ∃ q, infsR pl l n a2 = q := ⟨_, rfl⟩
        rw [hq] at her hnx ⊢
        simp -implicitDefEqProofs [rp]
        refine LI.tell (Tell.own0 (j := H.length + 3) (p := 2) (o := ⟨[i64 pl, nl, nl], 25, 0, true⟩) (by simp) rfl rfl 72 2) (LI.cong (H' := sJ H l a2 (0, 0) pl [] []) (by simp [sJ, infs, flO, set_app]) (loop31 hl.2.2 hl.1 (pl := pl) (by omega) (cnt := n) (by omega) (r := q) (fun e he env a is M k2 k3 k4 k5 hne => ?_) (fun is a3 he env M k2 k3 k4 k5 => ?_) n a2 [] _ [] (by simp) hn2.2 (by rw [preI_nil]; exact hq) ?_ ?_ ?_ ?_ ?_))
        · subst he
          simp only [if_true]
          have := fe (H1 := sJ H l a e pl is M) (env := env) (sx := .slc (byts l) l.length) (a := a) hcl hne (.inr ⟨l, rfl⟩) (fun i hi => List.getElem?_append_left hi) (by simp [sJ]) (by simp [sJ, flO]) (by simp [sJ, rfX, rfO]) (by simp [sJ]) k2 k3 k4 k5
          exact this
        · subst he
          have hi := hnx is a3 rfl
          simp only [if_true]
          have hpl14 : 1 ≤ pl ∧ pl ≤ 4 := by omega
          have hisn : is.length ≤ 200 := by have := hi.2.2.1; omega
          have key := fm (M := M) (env := env) hcl hl.1 hl.2.2 hi.2.1 hpl14 hisn (fun p hp => by have := hi.2.2.2 p hp; omega) k2 k3 k4 k5
          generalize treeR pl is l 42 0 0 a3 = q at key ⊢
          cases q with
          | error e => exact key
          | ok p => obtain ⟨ns, a4⟩ := p; exact key
        all_goals simp [rp]
end
end Go.Proofs.Ytoghpbjllompaaa.Rc

/- R8 -/
namespace Go.Proofs.Ytoghpbjllompaaa.Rc
open Go.Ab
def sK (H : List AO) (l : List Int) (a : Nat) (e : Fl) (bb : Int) (rows : List (List Int)) (M : List AO) : List AO :=
  H ++ ⟨[i64 0, nl], 28, 0, true⟩ :: flO (0, 0) :: rfO l a e :: ⟨[i64 bb, .own (H.length + 4) 0 rows.length 1 rows.length], 28, 0, true⟩ :: ⟨rowsV rows, 30, rows.length, true⟩ :: M
/-- What is left of a table's reading after a fault. -/
structure PanK (H : List AO) (l : List Int) (e : Fl) (H' : List AO) : Prop where
  lt : H.length + 3 < H'.length
  at_ : ∀ i, i < H.length → H'[i]? = H[i]?
  g : H'[H.length]? = some ⟨[i64 0, nl], 28, 0, true⟩
  f : H'[H.length + 1]? = some (flO (0, 0))
  r : ∃ a, H'[H.length + 2]? = some (rfO l a e)
def rwO (vs : List Int) : AO := ⟨ints vs, 3, vs.length, true⟩
section
variable {H : List AO} {l : List Int}
theorem sK_r {a : Nat} {e : Fl} {bb : Int} {rows : List (List Int)} {M : List AO} : (sK H l a e bb rows M)[H.length + 2]? = some (rfO l a e) := by simp [sK]
theorem sK_set {a a' : Nat} {e e' : Fl} {bb : Int} {rows : List (List Int)} {M : List AO} : (sK H l a e bb rows M).set (H.length + 2) (rfO l a' e') = sK H l a' e' bb rows M := by simp [sK]
theorem loop33x {H1 : List AO} {sx : SV} {a : Int} {e : Fl} (hr : H1[H.length + 2]? = some (rfX sx a e)) (he : e.1 ≠ 0) {c : Int} {N : Nat} {K : XE → Env → List AO → Prop} {env : Env}
    (h2 : env.get 2 = rp H.length) (h3 : env.get 3 = rp (H.length + 1)) (h4 : env.get 4 = rp (H.length + 2)) (h6 : env.get 6 = i64 c)
    (hk : ∀ env, env.get 2 = rp H.length → env.get 3 = rp (H.length + 1) → env.get 4 = rp (H.length + 2) → K (.exit 0) env H1) : LI Try.prog N drawB l33_0 env H1 K := by
  refine li_go hm l33_0.eq_1 ?_
  have er : objCells H1 (H.length + 2) 0 = [sx, i64 a, i64 e.1, i64 e.2] := objCells_of (o := rfX sx a e) hr rfl
  simp only [rp] at h2 h3 h4
  by_cases hi : 0 < c
  · simp -implicitDefEqProofs [h2, h3, h4, h6, er, he, hi]
    refine hk _ ?_ ?_ ?_ <;> simp [h2, h3, h4, rp]
  · simp -implicitDefEqProofs [h2, h3, h4, h6, er, he, hi]
    refine hk _ ?_ ?_ ?_ <;> simp [h2, h3, h4, rp]
theorem loop33_1n {bb : Int} {rows : List (List Int)} {M : List AO} {a : Nat} {e : Fl} (he : e.1 ≠ 0) {e5 e6 : SV} {N : Nat} {K : XE → Env → List AO → Prop}
    (hk : ∀ env vs M2, env.get 2 = rp H.length → env.get 3 = rp (H.length + 1) → env.get 4 = rp (H.length + 2) → env.get 5 = e5 → env.get 6 = e6 → env.get 7 = .own (H.length + (M.length + 5)) 0 vs.length 1 vs.length → vs.length ≤ 10 → K (.exit 2) env (sK H l a e bb rows (M ++ rwO vs :: M2))) :
    ∀ (n : Nat) (vs : List Int) (env : Env) (M2 : List AO), vs.length + n ≤ 10 → env.get 2 = rp H.length → env.get 3 = rp (H.length + 1) → env.get 4 = rp (H.length + 2) → env.get 5 = e5 → env.get 6 = e6 →
      env.get 7 = .own (H.length + (M.length + 5)) 0 vs.length 1 vs.length → env.get 8 = i64 n → LI Try.prog N drawB l33_1 env (sK H l a e bb rows (M ++ rwO vs :: M2)) K := by
  intro n
  induction n with
  | zero =>
    intro vs env M2 hn h2 h3 h4 h5 h6 h7 h8
    refine li_go hm l33_1.eq_1 ?_
    simp only [rp] at h2 h3 h4
    simp -implicitDefEqProofs [h2, h3, h4, h5, h6, h7, h8]
    refine hk _ vs M2 ?_ ?_ ?_ ?_ ?_ ?_ (by omega) <;> simp [h2, h3, h4, h5, h6, h7, rp]
  | succ n ih =>
    intro vs env M2 hn h2 h3 h4 h5 h6 h7 h8
    refine li_go hm l33_1.eq_1 ?_
    have w1 : IntKind.i64.wrap ((n : Int) + 1 - 1) = n := by rw [wrap_id (by omega) (by omega)]; omega
    have w3 : IntKind.i64.wrap (n : Int) = n := wrap_nat (by omega)
    have hn0 : (0 : Int) < (n : Int) + 1 := by omega
    have h59 := ok59n (H := sK H l a e bb rows (M ++ rwO vs :: M2)) (j := H.length + 2) (l := l) (a := a) (e := e) sK_r he 0 4611686018427387903
    have il : (ints vs).length = vs.length := by simp [ints]
    have eo : (sK H l a e bb rows (M ++ rwO vs :: M2))[H.length + (M.length + 5)]? = some (rwO vs) := by simp [sK]
    simp only [rp] at h2 h3 h4 h59
    simp -implicitDefEqProofs [h2, h3, h4, h5, h6, h7, h8, hn0]
    refine call_go h59 ?_
    unfold sK at eo ⊢
    simp -implicitDefEqProofs [h2, h3, h4, h5, h6, h7, h8, w1, rwO, il]
    refine ⟨by omega, by omega, LI.cong (H' := sK H l a e bb rows (M ++ rwO (vs ++ [0]) :: (M2 ++ [⟨[i64 0], 3, 0, true⟩]))) (by simp [sK, rwO, ints]) (ih (vs ++ [0]) _ _ (by simp; omega) ?_ ?_ ?_ ?_ ?_ ?_ ?_)⟩
    all_goals simp [rp, h2, h3, h4, h5, h6, w3]
theorem loop33_1 (hoct : Oct l) (hl : l.length ≤ 100000) {bb : Int} {rows : List (List Int)} {M : List AO} {cnt : Nat} (hc : cnt ≤ 10) {r : Except Fl (List Int × Nat)} {e5 e6 : SV} {N : Nat} {K : XE → Env → List AO → Prop}
    (herr : ∀ e, r = .error e → ∀ env a vs M2, env.get 2 = rp H.length → env.get 3 = rp (H.length + 1) → env.get 4 = rp (H.length + 2) → env.get 5 = e5 → env.get 6 = e6 → env.get 7 = .own (H.length + (M.length + 5)) 0 vs.length 1 vs.length → vs.length ≤ 10 → e.1 ≠ 0 → K (.exit 2) env (sK H l a e bb rows (M ++ rwO vs :: M2)))
    (hexit : ∀ vs a, r = .ok (vs, a) → ∀ env M2, env.get 2 = rp H.length → env.get 3 = rp (H.length + 1) → env.get 4 = rp (H.length + 2) → env.get 5 = e5 → env.get 6 = e6 → env.get 7 = .own (H.length + (M.length + 5)) 0 vs.length 1 vs.length → K (.exit 2) env (sK H l a (0, 0) bb rows (M ++ rwO vs :: M2))) :
    ∀ (n a : Nat) (vs : List Int) (env : Env) (M2 : List AO), vs.length + n = cnt → a ≤ l.length → preR vs (listR (numR l 0 4611686018427387903) n a) = r → env.get 2 = rp H.length → env.get 3 = rp (H.length + 1) → env.get 4 = rp (H.length + 2) → env.get 5 = e5 → env.get 6 = e6 →
      env.get 7 = .own (H.length + (M.length + 5)) 0 vs.length 1 vs.length → env.get 8 = i64 n → LI Try.prog N drawB l33_1 env (sK H l a (0, 0) bb rows (M ++ rwO vs :: M2)) K := by
  intro n
  induction n with
  | zero =>
    intro a vs env M2 hn ha hr h2 h3 h4 h5 h6 h7 h8
    refine li_go hm l33_1.eq_1 ?_
    have hr : r = .ok (vs, a) := by rw [← hr]; simp [listR, preR]
    simp only [rp] at h2 h3 h4
    simp -implicitDefEqProofs [h2, h3, h4, h5, h6, h7, h8]
    refine hexit vs a hr _ M2 ?_ ?_ ?_ ?_ ?_ ?_ <;> simp [h2, h3, h4, h5, h6, h7, rp]
  | succ n ih =>
    intro a vs env M2 hn ha hr h2 h3 h4 h5 h6 h7 h8
    refine li_go hm l33_1.eq_1 ?_
    have w1 : IntKind.i64.wrap ((n : Int) + 1 - 1) = n := by rw [wrap_id (by omega) (by omega)]; omega
    have w3 : IntKind.i64.wrap (n : Int) = n := wrap_nat (by omega)
    have hn0 : (0 : Int) < (n : Int) + 1 := by omega
    rw [preR_step] at hr
    have h59 := ok59 (H := sK H l a (0, 0) bb rows (M ++ rwO vs :: M2)) (j := H.length + 2) (l := l) (a := a) sK_r hoct hl ha 0 4611686018427387903
    have hnx := fun v a' h => numR_next (l := l) (lo := 0) (hi := 4611686018427387903) (a := a) (a' := a') (n := v) h ha
    have her := fun e => numR_err (l := l) (lo := 0) (hi := 4611686018427387903) (a := a) (e := e)
    have il : (ints vs).length = vs.length := by simp [ints]
    generalize numR l 0 4611686018427387903 a = q at *
    simp only [rp] at h2 h3 h4 h59
    simp -implicitDefEqProofs [h2, h3, h4, h5, h6, h7, h8, hn0]
    refine call_goP h59 ?_
    rintro o H' ho
    cases q with
    | error e =>
      obtain ⟨rfl, rfl⟩ := ho
      have hne := her e rfl
      simp only [] at hr
      rw [sK_set]
      have eo : (sK H l a e bb rows (M ++ rwO vs :: M2))[H.length + (M.length + 5)]? = some (rwO vs) := by simp [sK]
      unfold sK at eo ⊢
      simp -implicitDefEqProofs [h2, h3, h4, h5, h6, h7, h8, w1, w3, rwO, il]
      refine ⟨by omega, by omega, LI.cong (H' := sK H l a e bb rows (M ++ rwO (vs ++ [0]) :: (M2 ++ [⟨[i64 0], 3, 0, true⟩]))) (by simp [sK, rwO, ints]) (loop33_1n hne (e5 := e5) (e6 := e6) (fun env vs M2 k2 k3 k4 k5 k6 k7 k8 => herr e hr.symm env a vs M2 k2 k3 k4 k5 k6 k7 k8 hne) n (vs ++ [0]) _ _ (by simp; omega) ?_ ?_ ?_ ?_ ?_ ?_ ?_)⟩
      all_goals simp [rp, h2, h3, h4, h5, h6]
    | ok p =>
      obtain ⟨v, a1⟩ := p
      obtain ⟨rfl, rfl⟩ := ho
      have hv := hnx v a1 rfl
      simp only [] at hr
      rw [sK_set]
      have eo : (sK H l a1 (0, 0) bb rows (M ++ rwO vs :: M2))[H.length + (M.length + 5)]? = some (rwO vs) := by simp [sK]
      unfold sK at eo ⊢
      simp -implicitDefEqProofs [h2, h3, h4, h5, h6, h7, h8, w1, w3, rwO, il]
      refine ⟨by omega, by omega, LI.cong (H' := sK H l a1 (0, 0) bb rows (M ++ rwO (vs ++ [v]) :: (M2 ++ [⟨[i64 v], 3, 0, true⟩]))) (by simp [sK, rwO, ints]) (ih a1 (vs ++ [v]) _ _ (by simp; omega) hv.2 hr ?_ ?_ ?_ ?_ ?_ ?_ ?_)⟩
      all_goals simp [rp, h2, h3, h4, h5, h6]
theorem sK_tell (hcl : closed H) {env : Env} {l : List Int} {a : Nat} {bb : Int} {rows : List (List Int)} {M : List AO} :
    Tell env (sK H l a (0, 0) bb rows M) (env.map fun p => (p.1, p.2.gv (H.length + 4) rows.length (rowsV rows) 1)) (H ++ ⟨[i64 0, nl], 28, 0, true⟩ :: flO (0, 0) :: rfO l a (0, 0) :: tO ⟨bb, rows⟩ :: (AO.gv (H.length + 4) rows.length (rowsV rows) 1 (AO.dead ⟨rowsV rows, 30, rows.length, true⟩)) :: M.map (AO.gv (H.length + 4) rows.length (rowsV rows) 1)) := by
  have il : (rowsV rows).length = rows.length := by simp [rowsV]
  have e1 : AO.gv (H.length + 4) rows.length (rowsV rows) 1 ⟨[i64 bb, .own (H.length + 4) 0 rows.length 1 rows.length], 28, 0, true⟩ = tO ⟨bb, rows⟩ := by
    simp [AO.gv, tO, Tb.cells, il]
    exact List.take_of_length_le (by omega)
  have e2 : AO.gv (H.length + 4) rows.length (rowsV rows) 1 (flO (0, 0)) = flO (0, 0) := by simp [AO.gv, flO]
  have e3 : AO.gv (H.length + 4) rows.length (rowsV rows) 1 (rfO l a (0, 0)) = rfO l a (0, 0) := by simp [AO.gv, rfO]
  have e4 : AO.gv (H.length + 4) rows.length (rowsV rows) 1 ⟨[i64 0, nl], 28, 0, true⟩ = ⟨[i64 0, nl], 28, 0, true⟩ := by simp [AO.gv]
  have := Tell.give (env := env) (L := ⟨[i64 0, nl], 28, 0, true⟩ :: flO (0, 0) :: rfO l a (0, 0) :: ⟨[i64 bb, .own (H.length + 4) 0 rows.length 1 rows.length], 28, 0, true⟩ :: ⟨rowsV rows, 30, rows.length, true⟩ :: M) hcl 4 1 (o := ⟨rowsV rows, 30, rows.length, true⟩) rfl rfl
  have h2 : Tell env (sK H l a (0, 0) bb rows M) (env.map fun p => (p.1, p.2.gv (H.length + 4) rows.length (rowsV rows) 1)) (H ++ AO.gv (H.length + 4) rows.length (rowsV rows) 1 ⟨[i64 0, nl], 28, 0, true⟩ :: AO.gv (H.length + 4) rows.length (rowsV rows) 1 (flO (0, 0)) :: AO.gv (H.length + 4) rows.length (rowsV rows) 1 (rfO l a (0, 0)) :: AO.gv (H.length + 4) rows.length (rowsV rows) 1 ⟨[i64 bb, .own (H.length + 4) 0 rows.length 1 rows.length], 28, 0, true⟩ :: (AO.gv (H.length + 4) rows.length (rowsV rows) 1 (AO.dead ⟨rowsV rows, 30, rows.length, true⟩)) :: M.map (AO.gv (H.length + 4) rows.length (rowsV rows) 1)) := this
  rw [e1, e2, e3, e4] at h2
  exact h2
theorem loop33_0 (hoct : Oct l) (hl : l.length ≤ 100000) {bb : Int} {cnt : Nat} (hc : cnt ≤ 200) {r : Except Fl (List (List Int) × Nat)} {e5 : SV} (h5s : e5 = rp (H.length + 3)) {N : Nat} {K : XE → Env → List AO → Prop}
    (herr : ∀ e, r = .error e → ∀ env H', env.get 2 = rp H.length → env.get 3 = rp (H.length + 1) → env.get 4 = rp (H.length + 2) → e.1 ≠ 0 → PanK H l e H' → K (.exit 0) env H')
    (hexit : ∀ rows a, r = .ok (rows, a) → ∀ env M, env.get 2 = rp H.length → env.get 3 = rp (H.length + 1) → env.get 4 = rp (H.length + 2) → env.get 5 = e5 → K (.exit 0) env (H ++ ⟨[i64 0, nl], 28, 0, true⟩ :: flO (0, 0) :: rfO l a (0, 0) :: tO ⟨bb, rows⟩ :: M)) (hcl : closed H) :
    ∀ (n a : Nat) (rows : List (List Int)) (env : Env) (M : List AO), rows.length + n = cnt → a ≤ l.length → preT rows (rowsR l n a) = r → env.get 2 = rp H.length → env.get 3 = rp (H.length + 1) → env.get 4 = rp (H.length + 2) → env.get 5 = e5 →
      env.get 6 = i64 n → LI Try.prog N drawB l33_0 env (sK H l a (0, 0) bb rows M) K := by
  intro n
  induction n with
  | zero =>
    intro a rows env M hi ha hr h2 h3 h4 h5 h6
    have hr : r = .ok (rows, a) := by rw [← hr]; simp [rowsR, preT]
    subst h5s
    refine LI.tell (sK_tell hcl) ?_
    have g2 : Env.get (env.map fun p => (p.1, p.2.gv (H.length + 4) rows.length (rowsV rows) 1)) 2 = rp H.length := by rw [get_map _ (SV.gv _ _ _ _) (gv_any _ _ _ _)]; simp [h2, rp]
    have g3 : Env.get (env.map fun p => (p.1, p.2.gv (H.length + 4) rows.length (rowsV rows) 1)) 3 = rp (H.length + 1) := by rw [get_map _ (SV.gv _ _ _ _) (gv_any _ _ _ _)]; simp [h3, rp]
    have g4 : Env.get (env.map fun p => (p.1, p.2.gv (H.length + 4) rows.length (rowsV rows) 1)) 4 = rp (H.length + 2) := by rw [get_map _ (SV.gv _ _ _ _) (gv_any _ _ _ _)]; simp [h4, rp]
    have g5 : Env.get (env.map fun p => (p.1, p.2.gv (H.length + 4) rows.length (rowsV rows) 1)) 5 = rp (H.length + 3) := by rw [get_map _ (SV.gv _ _ _ _) (gv_any _ _ _ _)]; simp [h5, rp]
    have g6 : Env.get (env.map fun p => (p.1, p.2.gv (H.length + 4) rows.length (rowsV rows) 1)) 6 = i64 (0 : Int) := by rw [get_map _ (SV.gv _ _ _ _) (gv_any _ _ _ _)]; simp [h6]
    generalize (env.map fun p => (p.1, p.2.gv (H.length + 4) rows.length (rowsV rows) 1)) = env2 at *
    refine li_go hm l33_0.eq_1 ?_
    simp only [rp] at g2 g3 g4 g5
    simp -implicitDefEqProofs [g2, g3, g4, g5, g6]
    refine hexit rows a hr _ _ ?_ ?_ ?_ ?_ <;> simp [g2, g3, g4, g5, rp]
  | succ n ih =>
    intro a rows env M hi ha hr h2 h3 h4 h5 h6
    refine li_go hm l33_0.eq_1 ?_
    have w1 : IntKind.i64.wrap ((n : Int) + 1 - 1) = n := by rw [wrap_id (by omega) (by omega)]; omega
    have w3 : IntKind.i64.wrap (n : Int) = n := wrap_nat (by omega)
    have hn0 : (0 : Int) < (n : Int) + 1 := by omega
    rw [preT_step] at hr
    unfold rowR at hr
    have er : objCells (sK H l a (0, 0) bb rows M) (H.length + 2) 0 = [.slc (byts l) l.length, i64 a, i64 0, i64 0] := objCells_of (o := rfO l a (0, 0)) sK_r rfl
    have hlen : (sK H l a (0, 0) bb rows M).length = H.length + (M.length + 5) := by simp [sK]
    have h58 := ok58 (H := sK H l a (0, 0) bb rows (M ++ rwO [] :: [])) (j := H.length + 2) (l := l) (a := a) sK_r hoct hl ha 1 10
    have hnx := fun v a' h => octR_next (l := l) (lo := 1) (hi := 10) (a := a) (a' := a') (n := v) h
    have hne := fun e => octR_err (l := l) (lo := 1) (hi := 10) (a := a) (e := e)
    generalize octR l 1 10 a = q at *
    subst h5s
    simp only [rp] at h2 h3 h4 h5 h58
    simp -implicitDefEqProofs [h2, h3, h4, h5, h6, er, hn0, hlen]
    have es : sK H l a (0, 0) bb rows M ++ [⟨[], 3, 0, true⟩] = sK H l a (0, 0) bb rows (M ++ rwO [] :: []) := by simp [sK, rwO, ints]
    rw [es]
    refine call_goP h58 ?_
    rintro o H' ho
    have rl : (rowsV rows).length = rows.length := by simp [rowsV]
    cases q with
    | error e =>
      obtain ⟨rfl, rfl⟩ := ho
      have hne := hne e rfl
      simp only [] at hr
      rw [sK_set]
      simp -implicitDefEqProofs [h2, h3, h4, h5, h6]
      refine loop33_1n hne (e5 := rp (H.length + 3)) (e6 := i64 ((n : Int) + 1)) (fun env vs M2 k2 k3 k4 k5 k6 k7 k8 => ?_) 1 [] _ [] (by simp) ?_ ?_ ?_ ?_ ?_ ?_ ?_
      · simp only [rp] at k2 k3 k4 k5
        have hT : ∀ o1 o2 L1, PanK H l e (H ++ ⟨[i64 0, nl], 28, 0, true⟩ :: flO (0, 0) :: rfO l a e :: o1 :: o2 :: L1) := fun o1 o2 L1 => ⟨by simp, fun i hi => List.getElem?_append_left hi, by simp, by simp, ⟨a, by simp⟩⟩
        unfold sK
        simp -implicitDefEqProofs [k2, k3, k4, k5, k6, k7, w1, w3, rl]
        refine ⟨by omega, by omega, ?_⟩
        obtain ⟨a9, hra⟩ := (hT ⟨[i64 bb, .own (H.length + 4) 0 (rows.length + 1) 1 (rows.length + 1)], 28, 0, true⟩ ⟨rowsV rows ++ [.own (H.length + (M.length + 5)) 0 vs.length 1 vs.length], 30, rows.length + 1, true⟩ (M ++ rwO vs :: (M2 ++ [⟨[.own (H.length + (M.length + 5)) 0 vs.length 1 vs.length], 30, 0, true⟩]))).r
        refine loop33x (c := n) (by rw [← rfX_eq] at hra; exact hra) hne ?_ ?_ ?_ ?_ (fun env k2 k3 k4 => herr e hr.symm env _ k2 k3 k4 hne (hT _ _ _))
        all_goals simp [rp, k2, k3, k4]
      all_goals simp [rp, h2, h3, h4, h5, h6]
    | ok p =>
      obtain ⟨m, a1⟩ := p
      obtain ⟨rfl, rfl⟩ := ho
      have hn := hnx m a1 rfl
      rw [sK_set]
      obtain ⟨c, rfl⟩ : ∃ k : Nat, m = k := ⟨m.toNat, by omega⟩
      simp only [Int.toNat_natCast] at hr
      have hlr := fun vs a' h => listR_next (f := numR l 0 4611686018427387903) (b := l.length) (fun a v a' ha h => numR_next h ha) c a1 vs a' hn.2.1 h
      obtain ⟨lr, hlq⟩ : ∃ lr, listR (numR l 0 4611686018427387903) c a1 = lr := ⟨_, rfl⟩
      rw [hlq] at hr hlr
      simp -implicitDefEqProofs [h2, h3, h4, h5, h6]
      refine loop33_1 hoct hl (cnt := c) (by omega) (r := lr) (e5 := rp (H.length + 3)) (e6 := i64 ((n : Int) + 1)) (fun e he env a vs M2 k2 k3 k4 k5 k6 k7 k8 hne => ?_) (fun vs a2 he env M2 k2 k3 k4 k5 k6 k7 => ?_) c a1 [] _ [] (by simp) hn.2.1 (by rw [preR_nil]; exact hlq) ?_ ?_ ?_ ?_ ?_ ?_ ?_
      · subst he
        simp only [] at hr
        simp only [rp] at k2 k3 k4 k5
        have hT : ∀ o1 o2 L1, PanK H l e (H ++ ⟨[i64 0, nl], 28, 0, true⟩ :: flO (0, 0) :: rfO l a e :: o1 :: o2 :: L1) := fun o1 o2 L1 => ⟨by simp, fun i hi => List.getElem?_append_left hi, by simp, by simp, ⟨a, by simp⟩⟩
        unfold sK
        simp -implicitDefEqProofs [k2, k3, k4, k5, k6, k7, w1, w3, rl]
        refine ⟨by omega, by omega, ?_⟩
        obtain ⟨a9, hra⟩ := (hT ⟨[i64 bb, .own (H.length + 4) 0 (rows.length + 1) 1 (rows.length + 1)], 28, 0, true⟩ ⟨rowsV rows ++ [.own (H.length + (M.length + 5)) 0 vs.length 1 vs.length], 30, rows.length + 1, true⟩ (M ++ rwO vs :: (M2 ++ [⟨[.own (H.length + (M.length + 5)) 0 vs.length 1 vs.length], 30, 0, true⟩]))).r
        refine loop33x (c := n) (by rw [← rfX_eq] at hra; exact hra) hne ?_ ?_ ?_ ?_ (fun env k2 k3 k4 => herr e hr.symm env _ k2 k3 k4 hne (hT _ _ _))
        all_goals simp [rp, k2, k3, k4]
      · subst he
        have hv := hlr vs a2 rfl
        simp only [] at hr
        simp only [rp] at k2 k3 k4 k5
        unfold sK
        simp -implicitDefEqProofs [k2, k3, k4, k5, k6, k7, w1, w3, rl]
        refine ⟨by omega, by omega, ?_⟩
        have il : (ints vs).length = vs.length := by simp [ints]
        refine LI.tell (Tell.give hcl (M.length + 5) 1 (o := rwO vs) (by simp) rfl) ?_
        have g1 : AO.gv (H.length + (M.length + 5)) vs.length (ints vs) 1 ⟨[i64 bb, .own (H.length + 4) 0 (rows.length + 1) 1 (rows.length + 1)], 28, 0, true⟩ = ⟨[i64 bb, .own (H.length + 4) 0 (rows.length + 1) 1 (rows.length + 1)], 28, 0, true⟩ := by
          simp [AO.gv]
        have g2 : AO.gv (H.length + (M.length + 5)) vs.length (ints vs) 1 (flO (0, 0)) = flO (0, 0) := by simp [AO.gv, flO]
        have g3 : AO.gv (H.length + (M.length + 5)) vs.length (ints vs) 1 (rfO l a2 (0, 0)) = rfO l a2 (0, 0) := by simp [AO.gv, rfO]
        have g4 : AO.gv (H.length + (M.length + 5)) vs.length (ints vs) 1 ⟨rowsV rows ++ [.own (H.length + (M.length + 5)) 0 vs.length 1 vs.length], 30, rows.length + 1, true⟩ = ⟨rowsV (rows ++ [vs]), 30, (rows ++ [vs]).length, true⟩ := by
          simp [AO.gv, rowsV, sl, il, Function.comp_def]
        have g5 : AO.gv (H.length + (M.length + 5)) vs.length (ints vs) 1 ⟨[i64 0, nl], 28, 0, true⟩ = ⟨[i64 0, nl], 28, 0, true⟩ := by simp [AO.gv]
        refine LI.cong (H' := sK H l a2 (0, 0) bb (rows ++ [vs]) ((M ++ AO.dead (rwO vs) :: (M2 ++ [⟨[.own (H.length + (M.length + 5)) 0 vs.length 1 vs.length], 30, 0, true⟩])).map (AO.gv (H.length + (M.length + 5)) vs.length (ints vs) 1))) ?_ (ih a2 (rows ++ [vs]) _ _ (by simp; omega) hv.2.1 hr ?_ ?_ ?_ ?_ ?_)
        · simp [sK, rwO, -AO.gv, g1, g2, g3, g4, g5]
        all_goals rw [get_map _ (SV.gv _ _ _ _) (gv_any _ _ _ _)]; simp [rp, k2, k3, k4, k5]
      all_goals simp [rp, h2, h3, h4, h5, h6]
end
end Go.Proofs.Ytoghpbjllompaaa.Rc

/- R9 -/
namespace Go.Proofs.Ytoghpbjllompaaa.Rc
open Go.Ab
section
variable {H : List AO}
theorem fin33h {H1 : List AO} {env : Env} {e : Fl} {sx : SV} {a : Int} (hcl : closed H) (he : e.1 ≠ 0) (hat : ∀ i, i < H.length → H1[i]? = H[i]?) (hg : H1[H.length]? = some ⟨[i64 0, nl], 28, 0, true⟩) (hf : H1[H.length + 1]? = some (flO (0, 0)))
    (hr : H1[H.length + 2]? = some (rfX sx a e)) (hlt : H.length + 3 < H1.length) (h2 : env.get 2 = rp H.length) (h3 : env.get 3 = rp (H.length + 1)) (h4 : env.get 4 = rp (H.length + 2)) :
    X Try.prog Try.f33.ntmps drawB (icTl 6 i33) env H1 (FinP H.length r33 (RtP H (.error e))) := by
  have e1 : objCells H1 (H.length + 2) 0 = [sx, i64 a, i64 e.1, i64 e.2] := objCells_of (o := rfX sx a e) hr rfl
  have eg : objCells H1 H.length 0 = [i64 0, nl] := objCells_of (o := ⟨[i64 0, nl], 28, 0, true⟩) hg rfl
  have ef : objCells H1 (H.length + 1) 0 = [i64 0, i64 0] := objCells_of (o := flO (0, 0)) hf rfl
  have sg : ∀ f : AO → AO, Ab.setObj H1 H.length f = H1.set H.length (f ⟨[i64 0, nl], 28, 0, true⟩) := fun f => setObj_some hg f
  have ss : H1.set H.length ⟨[i64 0, nl], 28, 0, true⟩ = H1 := set_same hg
  have sf : ∀ f : AO → AO, Ab.setObj H1 (H.length + 1) f = H1.set (H.length + 1) (f (flO (0, 0))) := fun f => setObj_some hf f
  have x1 : objCells (H1.set (H.length + 1) ⟨[i64 e.1, i64 e.2], 47, 0, true⟩) H.length 0 = [i64 0, nl] := objCells_of (o := ⟨[i64 0, nl], 28, 0, true⟩) (by rw [List.getElem?_set_ne (by omega)]; exact hg) rfl
  have x2 : objCells (H1.set (H.length + 1) ⟨[i64 e.1, i64 e.2], 47, 0, true⟩) (H.length + 1) 0 = [i64 e.1, i64 e.2] := objCells_of (o := ⟨[i64 e.1, i64 e.2], 47, 0, true⟩) (by rw [List.getElem?_set_self (by omega)]) rfl
  have fin : FinQ H.length (RtP H (.error e)) (.tup [.agg [i64 0, nl], .agg [i64 e.1, i64 e.2]]) (H1.set (H.length + 1) ⟨[i64 e.1, i64 e.2], 47, 0, true⟩) := by
    obtain ⟨L, hL⟩ := pre_split (H := H) (H' := H1.set (H.length + 1) ⟨[i64 e.1, i64 e.2], 47, 0, true⟩) (by simp; omega) (fun i hi => by rw [List.getElem?_set_ne (by omega)]; exact hat i hi)
    rw [hL]
    refine ⟨_, H, ⟨rfl, rfl⟩, Cv.le (cv_drop rfl (Nat.le_refl _) hcl rfl) (le_tup (leL.cons (le_agg ?_) (leL.cons (SV.le.refl _) leL.nil)))⟩
    exact leL.cons (SV.le.refl _) (leL.cons le_nil leL.nil)
  simp only [rp] at h2 h3 h4
  simp -implicitDefEqProofs [icTl, i33, r33, h2, h3, h4, e1, he, eg, ef, sg, sf, ss, flO]
  rw [x1, x2]
  exact ⟨rfl, ⟨by simp, by simp⟩, fin⟩
theorem fin33g {H1 : List AO} {env : Env} {e : Fl} {sx : SV} {a : Int} (hcl : closed H) (he : e.1 ≠ 0) (hat : ∀ i, i < H.length → H1[i]? = H[i]?) (hg : H1[H.length]? = some ⟨[i64 0, nl], 28, 0, true⟩) (hf : H1[H.length + 1]? = some (flO (0, 0)))
    (hr : H1[H.length + 2]? = some (rfX sx a e)) (hlt : H.length + 3 < H1.length) (h2 : env.get 2 = rp H.length) (h3 : env.get 3 = rp (H.length + 1)) (h4 : env.get 4 = rp (H.length + 2)) :
    X Try.prog Try.f33.ntmps drawB (icTl 5 i33) env H1 (FinP H.length r33 (RtP H (.error e))) := by
  have e1 : objCells H1 (H.length + 2) 0 = [sx, i64 a, i64 e.1, i64 e.2] := objCells_of (o := rfX sx a e) hr rfl
  have eg : objCells H1 H.length 0 = [i64 0, nl] := objCells_of (o := ⟨[i64 0, nl], 28, 0, true⟩) hg rfl
  have ef : objCells H1 (H.length + 1) 0 = [i64 0, i64 0] := objCells_of (o := flO (0, 0)) hf rfl
  have sg : ∀ f : AO → AO, Ab.setObj H1 H.length f = H1.set H.length (f ⟨[i64 0, nl], 28, 0, true⟩) := fun f => setObj_some hg f
  have ss : H1.set H.length ⟨[i64 0, nl], 28, 0, true⟩ = H1 := set_same hg
  have sf : ∀ f : AO → AO, Ab.setObj H1 (H.length + 1) f = H1.set (H.length + 1) (f (flO (0, 0))) := fun f => setObj_some hf f
  have x1 : objCells (H1.set (H.length + 1) ⟨[i64 e.1, i64 e.2], 47, 0, true⟩) H.length 0 = [i64 0, nl] := objCells_of (o := ⟨[i64 0, nl], 28, 0, true⟩) (by rw [List.getElem?_set_ne (by omega)]; exact hg) rfl
  have x2 : objCells (H1.set (H.length + 1) ⟨[i64 e.1, i64 e.2], 47, 0, true⟩) (H.length + 1) 0 = [i64 e.1, i64 e.2] := objCells_of (o := ⟨[i64 e.1, i64 e.2], 47, 0, true⟩) (by rw [List.getElem?_set_self (by omega)]) rfl
  have fin : FinQ H.length (RtP H (.error e)) (.tup [.agg [i64 0, nl], .agg [i64 e.1, i64 e.2]]) (H1.set (H.length + 1) ⟨[i64 e.1, i64 e.2], 47, 0, true⟩) := by
    obtain ⟨L, hL⟩ := pre_split (H := H) (H' := H1.set (H.length + 1) ⟨[i64 e.1, i64 e.2], 47, 0, true⟩) (by simp; omega) (fun i hi => by rw [List.getElem?_set_ne (by omega)]; exact hat i hi)
    rw [hL]
    refine ⟨_, H, ⟨rfl, rfl⟩, Cv.le (cv_drop rfl (Nat.le_refl _) hcl rfl) (le_tup (leL.cons (le_agg ?_) (leL.cons (SV.le.refl _) leL.nil)))⟩
    exact leL.cons (SV.le.refl _) (leL.cons le_nil leL.nil)
  simp only [rp] at h2 h3 h4
  simp -implicitDefEqProofs [icTl, i33, r33, h2, h3, h4, e1, he, eg, ef, sg, sf, ss, flO]
  rw [x1, x2]
  exact ⟨rfl, ⟨by simp, by simp⟩, fin⟩
/-- From the check that nothing is left on, after a fault. -/
theorem fin33f {H1 : List AO} {env : Env} {e : Fl} {l : List Int} {a : Nat} (hcl : closed H) (he : e.1 ≠ 0) (hat : ∀ i, i < H.length → H1[i]? = H[i]?) (hg : H1[H.length]? = some ⟨[i64 0, nl], 28, 0, true⟩) (hf : H1[H.length + 1]? = some (flO (0, 0)))
    (hr : H1[H.length + 2]? = some (rfO l a e)) (hlt : H.length + 3 < H1.length) (h2 : env.get 2 = rp H.length) (h3 : env.get 3 = rp (H.length + 1)) (h4 : env.get 4 = rp (H.length + 2)) :
    X Try.prog Try.f33.ntmps drawB (icTl 4 i33) env H1 (FinP H.length r33 (RtP H (.error e))) := by
  have e1 : objCells H1 (H.length + 2) 0 = [.slc (byts l) l.length, i64 a, i64 e.1, i64 e.2] := objCells_of (o := rfO l a e) hr rfl
  have h61 := fun p => ok61n hr he 4 p
  have htl : icTl 4 i33 = .seq (match icTl 4 i33 with | .seq a _ => a | _ => .skip) (icTl 5 i33) := rfl
  rw [htl]
  simp only [rp] at h2 h3 h4 h61
  have fin := fun env (k2 : env.get 2 = rp H.length) (k3 : env.get 3 = rp (H.length + 1)) (k4 : env.get 4 = rp (H.length + 2)) => fin33g (env := env) hcl he hat hg hf (by rw [← rfX_eq] at hr; exact hr) hlt k2 k3 k4
  generalize icTl 5 i33 = t at *
  simp -implicitDefEqProofs [icTl, i33, h2, h3, h4, e1]
  by_cases h5 : a < l.length
  · have h5' : (a : Int) < l.length := by omega
    simp -implicitDefEqProofs [h5, h5', h2, h3, h4, e1]
    refine call_go (h61 _) ?_
    simp -implicitDefEqProofs
    refine fin _ ?_ ?_ ?_ <;> simp [h2, h3, h4, rp]
  · have h5' : ¬ (a : Int) < l.length := by omega
    simp -implicitDefEqProofs [h5, h5', h2, h3, h4, e1]
    refine fin _ ?_ ?_ ?_ <;> simp [h2, h3, h4, rp]
theorem fin33s {H1 : List AO} {env : Env} {l : List Int} {a : Nat} {g : Tb} (hcl : closed H) (hl : l.length ≤ 100000) (hat : ∀ i, i < H.length → H1[i]? = H[i]?) (hg : H1[H.length]? = some ⟨[i64 0, nl], 28, 0, true⟩) (hf : H1[H.length + 1]? = some (flO (0, 0)))
    (hr : H1[H.length + 2]? = some (rfO l a (0, 0))) (h0 : H1[H.length + 3]? = some (tO g)) (hrw : ∀ r ∈ g.r, r.length ≤ 10) (h2 : env.get 2 = rp H.length) (h3 : env.get 3 = rp (H.length + 1)) (h4 : env.get 4 = rp (H.length + 2)) (h5 : env.get 5 = rp (H.length + 3)) :
    X Try.prog Try.f33.ntmps drawB (icTl 4 i33) env H1 (FinP H.length r33 (RtP H (if a < l.length then .error (4, (a : Int)) else if g.err = 0 then .ok g else .error (g.err, (l.length : Int))))) := by
  have hlt := getElem?_lt h0
  have e1 : objCells H1 (H.length + 2) 0 = [.slc (byts l) l.length, i64 a, i64 0, i64 0] := objCells_of (o := rfO l a (0, 0)) hr rfl
  have eg : objCells H1 (H.length + 3) 0 = [i64 g.b, .slc (rowsV g.r) g.r.length] := objCells_of (o := tO g) h0 rfl
  have htl : icTl 4 i33 = .seq (match icTl 4 i33 with | .seq a _ => a | _ => .skip) (icTl 5 i33) := rfl
  simp only [rp] at h2 h3 h4 h5
  by_cases hal : a < l.length
  · have hal' : (a : Int) < l.length := by omega
    rw [if_pos hal, htl]
    have h61 := ok61 hr (4, (a : Int))
    have fin := fun env (k2 : env.get 2 = rp H.length) (k3 : env.get 3 = rp (H.length + 1)) (k4 : env.get 4 = rp (H.length + 2)) => fin33g (H1 := H1.set (H.length + 2) (rfO l a (4, (a : Int)))) (sx := .slc (byts l) l.length) (a := a) (e := (4, (a : Int))) (env := env) hcl (by simp) (fun i hi => by rw [List.getElem?_set_ne (by omega)]; exact hat i hi)
      (by rw [List.getElem?_set_ne (by omega)]; exact hg) (by rw [List.getElem?_set_ne (by omega)]; exact hf) (by rw [List.getElem?_set_self (by omega)]; rfl) (by simpa using hlt) k2 k3 k4
    generalize icTl 5 i33 = t at *
    simp only [rp] at h61
    simp -implicitDefEqProofs [icTl, i33, h2, h3, h4, e1, hal, hal']
    refine call_go h61 ?_
    simp -implicitDefEqProofs
    refine fin _ ?_ ?_ ?_ <;> simp [h2, h3, h4, rp]
  · have hal' : ¬ (a : Int) < l.length := by omega
    rw [if_neg hal]
    have h45 := ok45 (H := H1) (t := g)
    by_cases hfe : g.err = 0
    · rw [if_pos hfe]
      rw [hfe] at h45
      have egg : objCells H1 H.length 0 = [i64 0, nl] := objCells_of (o := ⟨[i64 0, nl], 28, 0, true⟩) hg rfl
      have sgg : ∀ f : AO → AO, Ab.setObj H1 H.length f = H1.set H.length (f ⟨[i64 0, nl], 28, 0, true⟩) := fun f => setObj_some hg f
      simp -implicitDefEqProofs [icTl, i33, r33, h2, h3, h4, h5, e1, eg, hal, hal']
      refine call_go (by simpa [Tb.cells] using h45) ?_
      have e2 : objCells (H1.set H.length ⟨[i64 g.b, .slc (rowsV g.r) g.r.length], 28, 0, true⟩) (H.length + 1) 0 = [i64 0, i64 0] := objCells_of (o := flO (0, 0)) (by rw [List.getElem?_set_ne (by omega)]; exact hf) rfl
      have e3 : objCells (H1.set H.length ⟨[i64 g.b, .slc (rowsV g.r) g.r.length], 28, 0, true⟩) H.length 0 = [i64 g.b, .slc (rowsV g.r) g.r.length] := objCells_of (o := ⟨[i64 g.b, .slc (rowsV g.r) g.r.length], 28, 0, true⟩) (by rw [List.getElem?_set_self (by omega)]) rfl
      have sf : ∀ f : AO → AO, Ab.setObj (H1.set H.length ⟨[i64 g.b, .slc (rowsV g.r) g.r.length], 28, 0, true⟩) (H.length + 1) f = (H1.set H.length ⟨[i64 g.b, .slc (rowsV g.r) g.r.length], 28, 0, true⟩).set (H.length + 1) (f (flO (0, 0))) := fun f => setObj_some (by rw [List.getElem?_set_ne (by omega)]; exact hf) f
      have hfs : (H1.set H.length ⟨[i64 g.b, .slc (rowsV g.r) g.r.length], 28, 0, true⟩).set (H.length + 1) (flO (0, 0)) = H1.set H.length ⟨[i64 g.b, .slc (rowsV g.r) g.r.length], 28, 0, true⟩ := set_same (by rw [List.getElem?_set_ne (by omega)]; exact hf)
      simp -implicitDefEqProofs [h2, h3, h4, h5, e1, eg, sgg]
      rw [sf]
      simp only [flO] at hfs ⊢
      simp only [List.drop_succ_cons, List.drop_zero, hfs, egg, e2, e3]
      refine ⟨by simp, by simp, ⟨by simp, by simp⟩, ?_⟩
      obtain ⟨L, hL⟩ := pre_split (H := H) (H' := H1.set H.length ⟨[i64 g.b, .slc (rowsV g.r) g.r.length], 28, 0, true⟩) (by simp; omega) (fun i hi => by rw [List.getElem?_set_ne (by omega)]; exact hat i hi)
      rw [hL]
      refine ⟨_, H, ⟨rfl, rfl⟩, cv_drop rfl (Nat.le_refl _) hcl ?_⟩
      simp [SV.under, SV.underL, rowsV_under]
    · rw [if_neg hfe]
      have h61 := ok61 hr (g.err, (l.length : Int))
      have fin := fun env (k2 : env.get 2 = rp H.length) (k3 : env.get 3 = rp (H.length + 1)) (k4 : env.get 4 = rp (H.length + 2)) => fin33h (H1 := H1.set (H.length + 2) (rfO l a (g.err, (l.length : Int)))) (sx := .slc (byts l) l.length) (a := a) (e := (g.err, (l.length : Int))) (env := env) hcl hfe (fun i hi => by rw [List.getElem?_set_ne (by omega)]; exact hat i hi)
        (by rw [List.getElem?_set_ne (by omega)]; exact hg) (by rw [List.getElem?_set_ne (by omega)]; exact hf) (by rw [List.getElem?_set_self (by omega)]; rfl) (by simpa using hlt) k2 k3 k4
      have ht7 : icTl 4 i33 = .seq (match icTl 4 i33 with | .seq a _ => a | _ => .skip) (.seq (match icTl 5 i33 with | .seq a _ => a | _ => .skip) (icTl 6 i33)) := rfl
      rw [ht7]
      generalize icTl 6 i33 = t at *
      simp only [rp] at h61
      simp -implicitDefEqProofs [icTl, i33, h2, h3, h4, h5, e1, eg, hal, hal']
      refine call_go (by simpa [Tb.cells] using h45) ?_
      simp -implicitDefEqProofs [h2, h3, h4, h5, e1, eg, hfe]
      refine call_go h61 ?_
      simp -implicitDefEqProofs
      refine fin _ ?_ ?_ ?_ <;> simp [h2, h3, h4, rp]
theorem fin33x {H1 : List AO} {env : Env} {e : Fl} {sx : SV} {a : Int} (hcl : closed H) (he : e.1 ≠ 0) (hsx : sx = nl ∨ ∃ l, sx = .slc (byts l) l.length) (hat : ∀ i, i < H.length → H1[i]? = H[i]?) (hg : H1[H.length]? = some ⟨[i64 0, nl], 28, 0, true⟩) (hf : H1[H.length + 1]? = some (flO (0, 0)))
    (hr : H1[H.length + 2]? = some (rfX sx a e)) (hlt : H.length + 3 < H1.length) (h2 : env.get 2 = rp H.length) (h3 : env.get 3 = rp (H.length + 1)) (h4 : env.get 4 = rp (H.length + 2)) :
    X Try.prog Try.f33.ntmps drawB (icTl 4 i33) env H1 (FinP H.length r33 (RtP H (.error e))) := by
  have e1 : objCells H1 (H.length + 2) 0 = [sx, i64 a, i64 e.1, i64 e.2] := objCells_of (o := rfX sx a e) hr rfl
  have h61 := fun p => ok61y hr he 4 p
  have htl : icTl 4 i33 = .seq (match icTl 4 i33 with | .seq a _ => a | _ => .skip) (icTl 5 i33) := rfl
  rw [htl]
  simp only [rp] at h2 h3 h4 h61
  have fin := fun env (k2 : env.get 2 = rp H.length) (k3 : env.get 3 = rp (H.length + 1)) (k4 : env.get 4 = rp (H.length + 2)) => fin33g (env := env) hcl he hat hg hf hr hlt k2 k3 k4
  have hsl : sx.vd = true ∧ sx.ug = sx ∧ sx.isSl = true ∧ sx.isCell = true := by
    rcases hsx with rfl | ⟨l, rfl⟩
    · exact ⟨rfl, rfl, rfl, rfl⟩
    · exact ⟨rfl, rfl, rfl, rfl⟩
  generalize icTl 5 i33 = t at *
  by_cases hal : a < sx.slen
  · simp -implicitDefEqProofs [icTl, i33, h2, h3, h4, e1, hsl.1, hsl.2.1, hsl.2.2.1, hsl.2.2.2, hal]
    refine call_go (h61 _) ?_
    simp -implicitDefEqProofs
    refine fin _ ?_ ?_ ?_ <;> simp [h2, h3, h4, rp]
  · simp -implicitDefEqProofs [icTl, i33, h2, h3, h4, e1, hsl.1, hsl.2.1, hsl.2.2.1, hsl.2.2.2, hal]
    refine fin _ ?_ ?_ ?_ <;> simp [h2, h3, h4, rp]
theorem ok33 {b : List Int} (ho : Oct b) (hlb : b.length < 4611686018427387904) : OkP Try.prog 33 [.slc (byts b) b.length] H (RtP H (readT b)) := by
  refine okP_fn hm Try.func33 c33 (by simp) fun hcl => ?_
  have h57 := ok57 (H := H ++ [⟨[i64 0, nl], 28, 0, true⟩, flO (0, 0)]) ho hlb 84
  have her := fun e => opnR_err (b := b) (c := 84) (e := e)
  unfold readT
  generalize hqq : opnR b 84 = q at *
  simp only [flO] at h57
  have fe := @fin33x H
  have fs := @fin33s H
  have hd : i33 = .seq (match icTl 0 i33 with | .seq a _ => a | _ => .skip) (.seq (match icTl 1 i33 with | .seq a _ => a | _ => .skip) (.seq (match icTl 2 i33 with | .seq a _ => a | _ => .skip) (.seq (match icTl 3 i33 with | .seq a _ => a | _ => .skip) (icTl 4 i33)))) := rfl
  rw [hd]
  generalize icTl 4 i33 = t at *
  simp -implicitDefEqProofs [icTl, i33]
  refine call_goP h57 ?_
  rintro o H' ⟨rfl, ho'⟩
  cases q with
  | error e =>
    obtain ⟨sx, ax, hsx, rfl⟩ := ho'
    have hne := her e rfl
    simp -implicitDefEqProofs [rp]
    refine call_go (by simpa [rp] using ok58x (sx := sx) (a := ax) (e := e) (H := H ++ [⟨[i64 0, nl], 28, 0, true⟩, ⟨[i64 0, i64 0], 47, 0, true⟩, rfX sx ax e]) (j := H.length + 2) (by simp) hne 0 255) ?_
    simp -implicitDefEqProofs [rp]
    refine And.intro rfl (call_go (by simpa [rp] using ok59x (sx := sx) (a := ax) (e := e) (H := H ++ [⟨[i64 0, nl], 28, 0, true⟩, ⟨[i64 0, i64 0], 47, 0, true⟩, rfX sx ax e, ⟨[i64 0, nl], 28, 0, true⟩]) (j := H.length + 2) (by simp) hne 0 200) ?_)
    simp -implicitDefEqProofs [rp]
    refine loop33x (H := H) (sx := sx) (a := ax) (e := e) (by simp) hne (c := 0) ?_ ?_ ?_ ?_ (fun env k2 k3 k4 => ?_)
    · simp [rp]
    · simp [rp]
    · simp [rp]
    · simp [rp]
    · simp only [if_true]
      have := fe (H1 := H ++ [⟨[i64 0, nl], 28, 0, true⟩, ⟨[i64 0, i64 0], 47, 0, true⟩, rfX sx ax e, ⟨[i64 0, nl], 28, 0, true⟩]) (sx := sx) (a := ax) hcl hne hsx (fun i hi => List.getElem?_append_left hi) (by simp) (by simp [flO]) (by simp) (by simp) k2 k3 k4
      exact this
  | ok l =>
    subst ho'
    have hl : l.length ≤ 100000 ∧ 3 ≤ l.length ∧ Oct l := opnR_ok ho hqq
    have h58 := ok58 (H := H ++ [⟨[i64 0, nl], 28, 0, true⟩, ⟨[i64 0, i64 0], 47, 0, true⟩, rfO l 3 (0, 0)]) (j := H.length + 2) (l := l) (a := 3) (by simp) hl.2.2 hl.1 hl.2.1 0 255
    have hnx := fun v a' h => octR_next (l := l) (lo := 0) (hi := 255) (a := 3) (a' := a') (n := v) h
    have her := fun e => octR_err (l := l) (lo := 0) (hi := 255) (a := 3) (e := e)
    simp only []
    generalize octR l 0 255 3 = q at *
    simp only [rp] at h58
    simp -implicitDefEqProofs [rp]
    refine call_goP h58 ?_
    rintro o H' hp
    cases q with
    | error e =>
      obtain ⟨rfl, rfl⟩ := hp
      have hne := her e rfl
      simp -implicitDefEqProofs [rp]
      refine And.intro rfl (call_go (by simpa [rp] using ok59n (l := l) (a := 3) (e := e) (H := H ++ [⟨[i64 0, nl], 28, 0, true⟩, ⟨[i64 0, i64 0], 47, 0, true⟩, rfO l 3 e, ⟨[i64 0, nl], 28, 0, true⟩]) (j := H.length + 2) (by simp) hne 0 200) ?_)
      simp -implicitDefEqProofs [rp]
      refine loop33x (H := H) (sx := .slc (byts l) l.length) (a := (3 : Nat)) (e := e) (by simp [rfX, rfO]) hne (c := 0) (by simp [rp]) (by simp [rp]) (by simp [rp]) (by simp [rp]) (fun env k2 k3 k4 => ?_)
      simp only [if_true]
      have := fe (H1 := H ++ [⟨[i64 0, nl], 28, 0, true⟩, ⟨[i64 0, i64 0], 47, 0, true⟩, rfO l 3 e, ⟨[i64 0, nl], 28, 0, true⟩]) (sx := .slc (byts l) l.length) (a := (3 : Nat)) hcl hne (.inr ⟨l, rfl⟩) (fun i hi => List.getElem?_append_left hi) (by simp) (by simp [flO]) (by simp [rfX, rfO]) (by simp) k2 k3 k4
      exact this
    | ok p =>
      obtain ⟨pl, a1⟩ := p
      obtain ⟨rfl, rfl⟩ := hp
      have hn := hnx pl a1 rfl
      have h59 := ok59 (H := H ++ [⟨[i64 0, nl], 28, 0, true⟩, ⟨[i64 0, i64 0], 47, 0, true⟩, rfO l a1 (0, 0), ⟨[i64 pl, nl], 28, 0, true⟩]) (j := H.length + 2) (l := l) (a := a1) (by simp) hl.2.2 hl.1 hn.2.1 0 200
      have hnx := fun v a' h => numR_next (l := l) (lo := 0) (hi := 200) (a := a1) (a' := a') (n := v) h hn.2.1
      have hrg := fun v a' h => numR_rng (l := l) (lo := 0) (hi := 200) (a := a1) (a' := a') (n := v) h
      have her := fun e => numR_err (l := l) (lo := 0) (hi := 200) (a := a1) (e := e)
      simp only []
      generalize numR l 0 200 a1 = q at *
      simp only [rp] at h59
      simp -implicitDefEqProofs [rp]
      refine And.intro rfl (call_goP h59 ?_)
      rintro o H' hp
      cases q with
      | error e =>
        obtain ⟨rfl, rfl⟩ := hp
        have hne := her e rfl
        simp -implicitDefEqProofs [rp]
        refine loop33x (H := H) (sx := .slc (byts l) l.length) (a := a1) (e := e) (by simp [rfX, rfO]) hne (c := 0) (by simp [rp]) (by simp [rp]) (by simp [rp]) (by simp [rp]) (fun env k2 k3 k4 => ?_)
        simp only [if_true]
        have := fe (H1 := H ++ [⟨[i64 0, nl], 28, 0, true⟩, ⟨[i64 0, i64 0], 47, 0, true⟩, rfO l a1 e, ⟨[i64 pl, nl], 28, 0, true⟩]) (sx := .slc (byts l) l.length) (a := a1) hcl hne (.inr ⟨l, rfl⟩) (fun i hi => List.getElem?_append_left hi) (by simp) (by simp [flO]) (by simp [rfX, rfO]) (by simp) k2 k3 k4
        exact this
      | ok p =>
        obtain ⟨n, a2⟩ := p
        obtain ⟨rfl, rfl⟩ := hp
        have hn2 := hnx n a2 rfl
        have hr2 := hrg n a2 rfl
        obtain ⟨n, rfl⟩ : ∃ k : Nat, n = k := ⟨n.toNat, by omega⟩
        simp only [Int.toNat_natCast]
        have her := fun e => rowsR_err (l := l) n a2 e
        have hnx := fun rows a' => rowsR_next (l := l) n a2 rows a' hn2.2
        obtain ⟨q, hq⟩ : ∃ q, rowsR l n a2 = q := ⟨_, rfl⟩
        rw [hq] at her hnx ⊢
        simp -implicitDefEqProofs [rp]
        refine LI.tell (Tell.own0 (j := H.length + 3) (p := 1) (o := ⟨[i64 pl, nl], 28, 0, true⟩) (by simp) rfl rfl 30 1) (LI.cong (H' := sK H l a2 (0, 0) pl [] []) (by simp [sK, rowsV, flO, set_app]) (loop33_0 hl.2.2 hl.1 (bb := pl) (cnt := n) (by omega) (r := q) (e5 := rp (H.length + 3)) rfl (fun e he env H' k2 k3 k4 hne hp => ?_) (fun rows a3 he env M k2 k3 k4 k5 => ?_) hcl n a2 [] _ [] (by simp) hn2.2 (by rw [preT_nil]; exact hq) ?_ ?_ ?_ ?_ ?_))
        · subst he
          simp only [if_true]
          obtain ⟨a9, hra⟩ := hp.r
          exact fe (env := env) (sx := .slc (byts l) l.length) (a := a9) hcl hne (.inr ⟨l, rfl⟩) hp.at_ hp.g hp.f hra hp.lt k2 k3 k4
        · subst he
          have hi := hnx rows a3 rfl
          simp only [if_true]
          exact fs (g := ⟨pl, rows⟩) hcl hl.1 (fun i hi => List.getElem?_append_left hi) (by simp) (by simp) (by simp) (by simp) (fun r hr => (hi.2.2.2 r hr).2) k2 k3 k4 k5
        all_goals simp [rp]
end
end Go.Proofs.Ytoghpbjllompaaa.Rc

/- P33 -/
namespace Go.Proofs.Ytoghpbjllompaaa.Rc
open Go.Ab
def b0 : List Int := [80, 71, 1, 1, 0, 3, 5, 3, 245, 0, 162]
def g0 : Gm := ⟨1, [⟨3, 0, 0, [], [], [-3]⟩], []⟩
/-- All objects are laid down behind the k-th step. -/
def icFrz (ks : List Nat) (d : Nat) : Nat → IC → IC
  | 0, a => .keep ks (.frz d a)
  | k + 1, .seq a b => .seq a (icFrz ks d k b)
  | _, a => a
@[simp] theorem icFrz_zero (ks : List Nat) (d : Nat) (a : IC) : icFrz ks d 0 a = .keep ks (.frz d a) := by cases a <;> rfl
@[simp] theorem icFrz_succ (ks : List Nat) (d k : Nat) (a b : IC) : icFrz ks d (k + 1) (.seq a b) = .seq a (icFrz ks d k b) := rfl
@[simp] theorem env_frz_nil (H : List AO) (d : Nat) : Env.frz [] H d = [] := rfl
@[simp] theorem env_frz_cons (k : Nat) (v : SV) (e : Env) (H : List AO) (d : Nat) : Env.frz ((k, v) :: e) H d = (k, v.fz 0 [] H d) :: Env.frz e H d := rfl
@[simp] theorem X_frz {P : Program} {N : Nat} {D : Array Oper → List Nat → List Ins → Bool} (d : Nat) (a : IC) (env : Env) (H : List AO) (K : XE → Env → List AO → Prop) : X P N D (.frz d a) env H K = X P N D a (env.frz H d) (H.map AO.dead) K := rfl
theorem fz0_own {L : List AO} (d k off len sz ver : Nat) : SV.fz 0 [] L (d + 1) (.own k off len sz ver) = (match L[k]? with
      | some o => if o.live = true ∧ o.ver = ver ∧ off + len * sz ≤ o.cells.length then .slc (((o.cells.drop off).take (len * sz)).map (SV.fz 0 [] L d)) len else .any
      | none => .any) := by
  have := fz_own 0 [] L d k off len sz ver
  rw [Nat.zero_add] at this
  simp only [placeOf] at this
  exact this
section
variable {H : List AO}
theorem ok25 : Ok Try.prog 25 [] H (.ret (.slc (byts b0) b0.length)) H := by
  refine ok_fn hm Try.func25 c25 (by rfl) fun hcl => ?_
  simp -implicitDefEqProofs [i25, r25]
  exact cv_fz 2 hcl rfl (by simp; exact ⟨rfl, rfl⟩)
theorem ok27 : Ok Try.prog 27 [] H (.ret (.agg g0.cells)) H := by
  refine ok_fn hm Try.func27 c27 (by rfl) fun hcl => ?_
  simp -implicitDefEqProofs [i27, r27]
  refine ⟨rfl, Cv.le (cv_fz (r := .agg [i64 1, .slc [i64 3, i64 0, i64 0, nl, nl, .slc [i64 (-3)] 1] 1, nl]) 5 hcl rfl (by simp)) ?_⟩
  refine le_agg (leL.cons (SV.le.refl _) (leL.cons (le_slc ?_ 1) (leL.cons le_nil leL.nil)))
  exact leL.cons (SV.le.refl _) (leL.cons (SV.le.refl _) (leL.cons (SV.le.refl _) (leL.cons le_nil (leL.cons le_nil (leL.cons (SV.le.refl _) leL.nil)))))
theorem ok22 {x : SV} {l : List Int} {n : Int} (hx : IsB H x l) (hl : l.length < 4611686018427387904) (hn : n < 9223372036854775808) (h : putR n = (l, 0)) : Ok Try.prog 22 [i64 n, x] H (.ret (bl true)) H := by
  refine ok_fn hm Try.func22 c22 (by simp) fun hcl => ?_
  have h16 := ok16 (H := H) hn
  rw [h] at h16
  simp -implicitDefEqProofs [i22, r22]
  refine call_go h16 ?_
  simp -implicitDefEqProofs [bl2]
  refine callq_st (r := bl true) (fun _ => by simp only [List.map_cons, List.map_nil, SV.strip]; exact ok15s (IsB.slc _ _) (by simpa [hx.strip] using hx) hl) ?_
  simp -implicitDefEqProofs
  exact cv_id
end
end Go.Proofs.Ytoghpbjllompaaa.Rc

/- W10 -/
namespace Go.Proofs.Ytoghpbjllompaaa.Rc
open Go.Ab
def b1 : List Int := [80, 84, 1, 1, 1, 2, 1, 1, 4, 236, 0, 172]
section
variable {H : List AO}
theorem gm0 : gameR g0 = (b0, 0) := by kernel_rfl
theorem tb0 : tabR ⟨1, [[1, 1]]⟩ = (b1, 0) := by kernel_rfl
theorem awakeW (hcl : closed H) : Ok Try.prog 10 [] H (.ret (bl true)) H := by
  refine ok_fn hm Try.func10 c10 (by rfl) fun hcl => ?_
  simp -implicitDefEqProofs [i10, r10]
  refine call_go ok27 ?_
  simp -implicitDefEqProofs
  have h11 := ok11 (H := H) (g := g0)
  rw [gm0] at h11
  refine call_go h11 ?_
  simp -implicitDefEqProofs [bl2]
  have h13 := fun H => ok13 (H := H) (t := ⟨1, [[1, 1]]⟩) (by simp)
  rw [tb0] at h13
  have t1 := Tell.give (env := []) (H0 := H) (L := [⟨[i64 1, i64 1], 3, 0, true⟩, ⟨[.own H.length 0 2 1 0], 30, 0, true⟩]) hcl 0 1 (o := ⟨[i64 1, i64 1], 3, 0, true⟩) rfl rfl
  simp [AO.dead] at t1
  have h := OkP.tell t1 (by simp) (OkP.give (H.length + 1) 2 (o := ⟨[.slc [i64 1, i64 1] 2], 30, 0, true⟩) (args := [.agg [i64 1, .own (H.length + 1) 0 1 1 0]]) (by simp) rfl (OkP.cast (by simp [Tb.cells, rowsV, sl]; rfl) rfl (h13 _).toP))
  refine call_goP h ?_
  rintro o H' ⟨rfl, rfl⟩
  simp -implicitDefEqProofs [bl2]
  refine call_go (ok22 (l := [172, 2]) (n := 300) (IsL.at_ (j := H.length + 2) (T := 5) (by simp) rfl) (by decide) (by decide) (by kernel_rfl)) ?_
  simp -implicitDefEqProofs
  have q20 := fun H' : List AO => fun x hx => ok20 (H := H') (x := x) (l := [1, 2]) hx (by unfold Oct; decide) (by decide)
  rw [show sumV [1, 2] = 393220 by kernel_rfl] at q20
  refine callq_go (fun _ => q20 _ _ (IsL.at_ (j := H.length + 3) (T := 5) (by simp) rfl)) ?_
  simp -implicitDefEqProofs
  refine callq_go (fun _ => ok25) ?_
  simp -implicitDefEqProofs
  refine callq_st (r := bl true) (fun _ => by simpa [SV.strip] using ok15s (IsB.slc _ b0) (IsB.slc _ b0) (by decide)) ?_
  simp -implicitDefEqProofs
  have q15 := fun H' : List AO => fun y hy => ok15s (H := H') (x := .slc (byts b1) b1.length) (y := y) (l := b1) (IsB.slc _ b1) hy (by decide)
  refine callq_st (r := bl true) (fun _ => by simpa [SV.strip] using q15 _ (.own (H.length + 4) 0 12 1 0) (IsL.at_ (j := H.length + 4) (T := 5) (by simp [byts, b1]) rfl)) ?_
  simp -implicitDefEqProofs
  exact cv_fz 1 hcl rfl (by simp)
theorem awake_w : Ok Try.prog 10 [] H (.ret (bl true)) H := ok_lift (awakeW (H := []) (by intro i o h; simp at h)) rfl
end
end Go.Proofs.Ytoghpbjllompaaa.Rc

/- R10 -/
namespace Go.Proofs.Ytoghpbjllompaaa.Rc
open Go.Ab
section
variable {H : List AO} {g : Gm}
theorem Gd.ps (h : Gd g) {x : Nd} (hx : x ∈ g.ns) : x.ps.length ≤ 4 := by
  have he := h.e x hx
  have h4 := h.p4
  unfold Nd.err at he
  split at he
  · omega
  · split at he
    · unfold Nd.chance at he
      split at he
      · omega
      · rename_i hc; simp only [not_or] at hc; omega
    · split at he
      · unfold Nd.move at he
        split at he
        · omega
        · rename_i hc; simp only [not_or] at hc; omega
      · unfold Nd.end at he
        split at he
        · omega
        · rename_i hc; simp only [not_or] at hc; omega
set_option maxRecDepth 10000 in
theorem ok26z (hg : Gd g) : Ok Try.prog 26 [.agg g.cells, .agg g.cells] H (.ret (bl true)) H := by
  have hne : g.ns ≠ [] := fun e => by have := hg.n1; rw [e] at this; simp at this
  have := ok26 (H := H) (g := g) (by have := hg.n; omega) (by have := hg.i; omega) (fun x hx => by have := hg.few hx; have := hg.ps hx; omega)
  rw [nsv_ne hne] at this
  exact this
set_option maxRecDepth 10000 in
theorem ok26e : Ok Try.prog 26 [.agg (Gm.mk 0 [] []).cells, .agg (Gm.mk 0 [] []).cells] H (.ret (bl true)) H := by
  refine ok_fn hm Try.func26 c26 (by simp) fun hcl => ?_
  simp -implicitDefEqProofs [i26, r26, Gm.cells, nds, infs]
  have h54 := fun H => ok54 (H := H) (is := []) (by simp)
  simp only [infs, List.length_nil] at h54
  refine callq_st (fun _ => h54 _) ?_
  simp -implicitDefEqProofs
  refine li_go hm l26_0.eq_1 ?_
  simp -implicitDefEqProofs
  exact cv_fz 1 hcl rfl (by simp)
theorem loop63w {r : List (List Int)} (hr : r.length < 4611686018427387904) (hl : ∀ x ∈ r, x.length < 4611686018427387904) {N : Nat} {K : XE → Env → List AO → Prop} (hexit : ∀ env, K (.exit 0) env H) :
    ∀ (n i : Nat) (env : Env), i + n = r.length → env.get 0 = .slc (rowsV r) r.length → env.get 1 = .slc (rowsV r) r.length → env.get 5 = i64 i → LI Try.prog N drawB l63_0 env H K := by
  intro n
  induction n with
  | zero =>
    intro i env hi h0 h1 h5
    refine li_go hm l63_0.eq_1 ?_
    have e : i = r.length := by omega
    subst e
    simp -implicitDefEqProofs [h0, h1, h5]
    exact hexit _
  | succ n ih =>
    intro i env hi h0 h1 h5
    refine li_go hm l63_0.eq_1 ?_
    have hlt : i < r.length := by omega
    have w1 : IntKind.i64.wrap ((i : Int) + 1) = ((i + 1 : Nat) : Int) := wrap_succ (by omega)
    have hg : (rowsV r)[i]? = some (sl r[i]) := by simp [rowsV, hlt]
    have hgl : i < (rowsV r).length := by simp [rowsV, hlt]
    have hg' : (rowsV r)[i]'hgl = sl r[i] := by simp [rowsV]
    simp -implicitDefEqProofs [h0, h1, h5, hlt, hg, hg', hgl, sl]
    refine And.intro (by simp [rowsV]; omega) (callq_go (fun _ => ok73s (l := r[i]) (isc _ _) (isc _ _) (hl _ (List.getElem_mem hlt))) ?_)
    simp -implicitDefEqProofs [h5, w1]
    exact ih (i + 1) _ (by omega) (by simp [h0]) (by simp [h1]) (by simp)
theorem ok63 {r : List (List Int)} (hr : r.length < 4611686018427387904) (hl : ∀ x ∈ r, x.length < 4611686018427387904) : Ok Try.prog 63 [.slc (rowsV r) r.length, .slc (rowsV r) r.length] H (.ret (bl true)) H := by
  refine ok_fn hm Try.func63 c63 (by simp [rowsV_under]) fun hcl => ?_
  simp -implicitDefEqProofs [i63, r63]
  refine loop63w hr hl (fun env => ?_) r.length 0 _ (by omega) (by simp) (by simp) (by simp)
  simp -implicitDefEqProofs
  exact cv_id
theorem ok34 {t : Tb} (hr : t.r.length < 4611686018427387904) (hl : ∀ x ∈ t.r, x.length < 4611686018427387904) : Ok Try.prog 34 [.agg t.cells, .agg t.cells] H (.ret (bl true)) H := by
  refine ok_fn hm Try.func34 c34 (by simp [Tb.cells, rowsV_under]) fun hcl => ?_
  simp -implicitDefEqProofs [i34, r34, Tb.cells]
  refine callq_st (fun _ => ok63 hr hl) ?_
  simp -implicitDefEqProofs
  exact cv_fz 1 hcl rfl (by simp)
end
theorem c8f : chkF Try.prog drawB Try.f8 (icFrz [0, 2, 3] 4 3 i8) r8 = true := by kernel_rfl
theorem readG_cases {b : List Int} : gOf (readG b) = ⟨0, [], []⟩ ∨ Gd (gOf (readG b)) := by
  have h : ∀ r, readG b = r → gOf r = ⟨0, [], []⟩ ∨ Gd (gOf r) := by
    intro r h
    cases r with
    | error e => exact .inl rfl
    | ok g =>
      right
      unfold readG at h
      split at h
      · cases h
      · split at h
        · cases h
        · split at h
          · cases h
          · split at h
            · cases h
            · split at h
              · cases h
              · split at h
                · cases h
                · split at h
                  · cases h
                  · rename_i hf
                    cases h
                    have : Gm.formE _ = 0 := Decidable.byContradiction hf
                    rw [form_eq] at this
                    exact (form0 this).1
  exact h _ rfl
theorem ok26r {H : List AO} {b : List Int} : Ok Try.prog 26 [.agg (gOf (readG b)).cells, .agg (gOf (readG b)).cells] H (.ret (bl true)) H := by
  rcases readG_cases (b := b) with h | h
  · rw [h]; exact ok26e
  · exact ok26z h
theorem readT_cases {b : List Int} (hb : Oct b) : (tOf (readT b)).r.length ≤ 200 ∧ ∀ x ∈ (tOf (readT b)).r, x.length ≤ 10 := by
  have h : ∀ r, readT b = r → (tOf r).r.length ≤ 200 ∧ ∀ x ∈ (tOf r).r, x.length ≤ 10 := by
    intro r h
    cases r with
    | error e => exact ⟨Nat.zero_le _, fun x hx => by simp [tOf] at hx⟩
    | ok t =>
      unfold readT at h
      split at h
      · cases h
      · rename_i l hl
        split at h
        · cases h
        · rename_i bb a1 h1
          split at h
          · cases h
          · rename_i n a2 h2
            split at h
            · cases h
            · rename_i rows a3 h3
              split at h
              · cases h
              · split at h
                · cases h
                · cases h
                  have g1 := octR_next h1
                  have g2 := numR_next h2 g1.2.1
                  have g2' := numR_rng h2
                  have g3 := rowsR_next _ _ _ _ g2.2 h3
                  exact ⟨by simp only [tOf]; omega, fun x hx => (g3.2.2.2 x hx).2⟩
  exact h _ rfl
theorem ok34r {H : List AO} {b : List Int} (hb : Oct b) : Ok Try.prog 34 [.agg (tOf (readT b)).cells, .agg (tOf (readT b)).cells] H (.ret (bl true)) H := by
  have h := readT_cases hb
  exact ok34 (by omega) (fun x hx => by have := h.2 x hx; omega)
theorem ok8 {b : List Int} (hb : Oct b) (hlb : b.length ≤ maxLen) : Ok Try.prog 8 [.slc (byts b) b.length] [] (.ret (bl true)) [] := by
  refine ok_fn hm Try.func8 c8f (by simp) fun hcl => ?_
  unfold maxLen at hlb
  by_cases hc : (600 < b.length ∧ b.length < 100000) ∨ 100005 < b.length
  · rcases hc with ⟨h1, h2⟩ | h3
    · simp -implicitDefEqProofs [i8, r8, show 600 < (b.length : Int) by omega, show (b.length : Int) < 100000 by omega]
      refine call_go awake_w ?_
      simp -implicitDefEqProofs
      exact cv_id
    · simp -implicitDefEqProofs [i8, r8, show 600 < (b.length : Int) by omega, show ¬ (b.length : Int) < 100000 by omega, show 100005 < (b.length : Int) by omega]
      refine call_go awake_w ?_
      simp -implicitDefEqProofs
      exact cv_id
  · have hle : ¬ 100005 < (b.length : Int) := by omega
    have hl4 : b.length < 4611686018427387904 := by omega
    by_cases h1 : 600 < b.length
    · simp -implicitDefEqProofs [i8, r8, show 600 < (b.length : Int) by omega, show ¬ (b.length : Int) < 100000 by omega, hle]
      refine And.intro (by omega) (call_goP (okP24 hb hl4) ?_)
      rintro o H' ⟨rfl, rfl⟩
      simp -implicitDefEqProofs [env_frz_cons, fz0_own, Gm.cells]
      refine call_goP (ok31 hb hl4) ?_
      rintro o H' ⟨rfl, rfl⟩
      simp -implicitDefEqProofs [env_frz_cons, fz0_own, Gm.cells]
      refine call_goP (okP32 hb hl4) ?_
      rintro o H' ⟨rfl, rfl⟩
      simp -implicitDefEqProofs [env_frz_cons, fz0_own, Tb.cells]
      refine call_goP (ok33 hb hl4) ?_
      rintro o H' ⟨rfl, rfl⟩
      simp -implicitDefEqProofs [env_frz_cons, fz0_own, Tb.cells]
      have q26 := fun H => ok26r (H := H) (b := b)
      simp only [Gm.cells] at q26
      refine call_go (q26 _) ?_
      simp -implicitDefEqProofs
      have q34 := fun H => ok34r (H := H) hb
      simp only [Tb.cells] at q34
      refine callq_st (r := bl true) (fun _ => by simpa [SV.strip] using q34 _) ?_
      simp -implicitDefEqProofs
      refine callq_st (r := bl true) (fun _ => by simpa [SV.strip] using ok15s (IsB.slc _ b) (IsB.slc _ b) hl4) ?_
      simp -implicitDefEqProofs
      refine callq_go (fun _ => awake_w) ?_
      simp -implicitDefEqProofs
      exact cv_fz 1 hcl rfl (by simp)
    · simp -implicitDefEqProofs [i8, r8, show ¬ 600 < (b.length : Int) by omega, hle]
      refine And.intro (by omega) (call_goP (okP24 hb hl4) ?_)
      rintro o H' ⟨rfl, rfl⟩
      simp -implicitDefEqProofs [env_frz_cons, fz0_own, Gm.cells]
      refine call_goP (ok31 hb hl4) ?_
      rintro o H' ⟨rfl, rfl⟩
      simp -implicitDefEqProofs [env_frz_cons, fz0_own, Gm.cells]
      refine call_goP (okP32 hb hl4) ?_
      rintro o H' ⟨rfl, rfl⟩
      simp -implicitDefEqProofs [env_frz_cons, fz0_own, Tb.cells]
      refine call_goP (ok33 hb hl4) ?_
      rintro o H' ⟨rfl, rfl⟩
      simp -implicitDefEqProofs [env_frz_cons, fz0_own, Tb.cells]
      have q26 := fun H => ok26r (H := H) (b := b)
      simp only [Gm.cells] at q26
      refine call_go (q26 _) ?_
      simp -implicitDefEqProofs
      have q34 := fun H => ok34r (H := H) hb
      simp only [Tb.cells] at q34
      refine callq_st (r := bl true) (fun _ => by simpa [SV.strip] using q34 _) ?_
      simp -implicitDefEqProofs
      refine callq_st (r := bl true) (fun _ => by simpa [SV.strip] using ok15s (IsB.slc _ b) (IsB.slc _ b) hl4) ?_
      simp -implicitDefEqProofs
      refine callq_go (fun _ => awake_w) ?_
      simp -implicitDefEqProofs
      exact cv_fz 1 hcl rfl (by simp)
end Go.Proofs.Ytoghpbjllompaaa.Rc

