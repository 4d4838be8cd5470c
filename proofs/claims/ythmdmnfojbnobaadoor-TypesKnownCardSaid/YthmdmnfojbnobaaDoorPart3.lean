/-
  Steps of the proof: contracts of functions and plain facts that the statement rests on.
-/
import Derived.Test.YthmdmnfojbnobaaDoorPart2
import Derived.Test.YthmdmnfojbnobaaDoorCore4
import Derived.LaidMore
import Derived.OpenShut
import Derived.Stop.Joined
import Derived.LaidHandle
import Derived.Conc.Holds
import Derived.SevenTiedAt
set_option linter.all false
/- E11 -/
namespace Go.Proofs.YthmdmnfojbnobaaDoor
open Go.Ab
/-- The first fault of expressions that have to be of a kind. -/
def wantL (vs : List (List UInt8)) (k : Int) : List Ex → Int × Int
  | [] => (0, 0)
  | e :: r => if (wantF vs e k).1 ≠ 0 then wantF vs e k else wantL vs k r
section
variable {H : List AO} {vs : List (List UInt8)} {rest : List SV} {j : Nat} {T : TypeId}
theorem loop29_0 {l : List Ex} (hl : l.length < 4611686018427387904) (hh : ∀ e ∈ l, e.hgt ≤ 100000) (ho : H[j]? = some (tyO (varsM vs) opsM rest T)) {N : Nat} {K : XE → Env → List AO → Prop} {A : AO} {res : Int × Int} {x0 : SV}
    (hret : res.1 ≠ 0 → ∀ env G, env.get 4 = errV res.1 res.2 → K .ret env (H ++ A :: G)) (hexit : res = (0, 0) → ∀ env G, env.get 0 = rp j → env.get 3 = x0 → K (.exit 0) env (H ++ A :: G)) :
    ∀ (n i : Nat) (G : List AO) (env : Env), i + n = l.length → wantL vs 1 (l.drop i) = res → env.get 0 = rp j → env.get 3 = x0 → env.get 47 = exS l → env.get 48 = i64 l.length → env.get 49 = i64 i →
      LI Tryd.prog N drawB l29_0 env (H ++ A :: G) K := by
  intro n
  induction n with
  | zero =>
    intro i G env hi hr h0 hx0 hs hn hii
    refine li_go hm l29_0.eq_1 ?_
    have e : i = l.length := by omega
    subst e
    rw [List.drop_length] at hr
    simp -implicitDefEqProofs [h0, hx0, hs, hn, hii]
    refine hexit hr.symm _ _ ?_ ?_ <;> simp [h0, hx0]
  | succ n ih =>
    intro i G env hi hr h0 hx0 hs hn hii
    refine li_go hm l29_0.eq_1 ?_
    have hlt : i < l.length := by omega
    have hlt' : (i : Int) < l.length := by omega
    rw [List.drop_eq_getElem_cons hlt, wantL] at hr
    have hg := exL_get hlt
    have hlen := exL_len l
    have h46 := fun L => ok46 (H := H ++ L) (T := T) (rest := rest) (hh l[i] (List.getElem_mem hlt)) (get_app_l ho L) 1
    generalize l[i] = e at hr hg h46
    simp -implicitDefEqProofs [h0, hx0, hs, hn, hii, exS, hlt, hlt', hg, hlen, rp]
    refine ⟨by omega, callq_go (fun _ => h46 _) ?_⟩
    generalize wantF vs e 1 = w at hr ⊢
    by_cases hw : w.1 = 0
    · rw [if_neg (by simpa using hw)] at hr
      have hev : errV w.1 w.2 = .val .nilIface := by rw [hw]; rfl
      rw [hev]
      simp -implicitDefEqProofs [h0, hx0, hs, hn, hii]
      refine ih (i + 1) _ _ (by omega) hr ?_ ?_ ?_ ?_ ?_
      all_goals simp [h0, hx0, hs, hn, exS, rp, wrap_suc (show i < 9223372036854775807 by omega)]
    · rw [if_pos hw] at hr
      subst hr
      have hev := errV_of hw w.2
      rw [hev]
      simp -implicitDefEqProofs [h0, hx0, hs, hn, hii]
      refine hret hw _ _ ?_
      simp [hev]
theorem loop31_0 {l : List Ex} (hl : l.length < 4611686018427387904) (hh : ∀ e ∈ l, e.hgt ≤ 100000) (ho : H[j]? = some (tyO (varsM vs) opsM rest T)) {N : Nat} {K : XE → Env → List AO → Prop} {A : AO} {res : Int × Int}
    (hret : res.1 ≠ 0 → ∀ env G, env.get 4 = errV res.1 res.2 → K .ret env (H ++ A :: G)) (hexit : res = (0, 0) → ∀ env G, env.get 0 = rp j → K (.exit 0) env (H ++ A :: G)) :
    ∀ (n i : Nat) (G : List AO) (env : Env), i + n = l.length → wantL vs 1 (l.drop i) = res → env.get 0 = rp j → env.get 21 = exS l → env.get 22 = i64 l.length → env.get 23 = i64 i →
      LI Tryd.prog N drawB l31_0 env (H ++ A :: G) K := by
  intro n
  induction n with
  | zero =>
    intro i G env hi hr h0 hs hn hii
    refine li_go hm l31_0.eq_1 ?_
    have e : i = l.length := by omega
    subst e
    rw [List.drop_length] at hr
    simp -implicitDefEqProofs [h0, hs, hn, hii]
    refine hexit hr.symm _ _ ?_ <;> simp [h0]
  | succ n ih =>
    intro i G env hi hr h0 hs hn hii
    refine li_go hm l31_0.eq_1 ?_
    have hlt : i < l.length := by omega
    have hlt' : (i : Int) < l.length := by omega
    rw [List.drop_eq_getElem_cons hlt, wantL] at hr
    have hg := exL_get hlt
    have hlen := exL_len l
    have h46 := fun L => ok46 (H := H ++ L) (T := T) (rest := rest) (hh l[i] (List.getElem_mem hlt)) (get_app_l ho L) 1
    generalize l[i] = e at hr hg h46
    simp -implicitDefEqProofs [h0, hs, hn, hii, exS, hlt, hlt', hg, hlen, rp]
    refine ⟨by omega, callq_go (fun _ => h46 _) ?_⟩
    generalize wantF vs e 1 = w at hr ⊢
    by_cases hw : w.1 = 0
    · rw [if_neg (by simpa using hw)] at hr
      have hev : errV w.1 w.2 = .val .nilIface := by rw [hw]; rfl
      rw [hev]
      simp -implicitDefEqProofs [h0, hs, hn, hii]
      refine ih (i + 1) _ _ (by omega) hr ?_ ?_ ?_ ?_
      all_goals simp [h0, hs, hn, exS, rp, wrap_suc (show i < 9223372036854775807 by omega)]
    · rw [if_pos hw] at hr
      subst hr
      have hev := errV_of hw w.2
      rw [hev]
      simp -implicitDefEqProofs [h0, hs, hn, hii]
      refine hret hw _ _ ?_
      simp [hev]
theorem loop47_0 {l : List Ex} (hl : l.length < 4611686018427387904) (hh : ∀ e ∈ l, e.hgt ≤ 100000) (ho : H[j]? = some (tyO (varsM vs) opsM rest T)) {N : Nat} {K : XE → Env → List AO → Prop} {A : AO} {res : Int × Int} {x0 x1 : SV}
    (hret : res.1 ≠ 0 → ∀ env G, env.get 6 = errV res.1 res.2 → K .ret env (H ++ A :: G)) (hexit : res = (0, 0) → ∀ env G, env.get 0 = rp j → env.get 1 = x0 → env.get 5 = x1 → K (.exit 0) env (H ++ A :: G)) :
    ∀ (n i : Nat) (G : List AO) (env : Env), i + n = l.length → wantL vs 2 (l.drop i) = res → env.get 0 = rp j → env.get 1 = x0 → env.get 5 = x1 → env.get 22 = exS l → env.get 23 = i64 l.length → env.get 24 = i64 i →
      LI Tryd.prog N drawB l47_0 env (H ++ A :: G) K := by
  intro n
  induction n with
  | zero =>
    intro i G env hi hr h0 hx0 hx1 hs hn hii
    refine li_go hm l47_0.eq_1 ?_
    have e : i = l.length := by omega
    subst e
    rw [List.drop_length] at hr
    simp -implicitDefEqProofs [h0, hx0, hx1, hs, hn, hii]
    refine hexit hr.symm _ _ ?_ ?_ ?_ <;> simp [h0, hx0, hx1]
  | succ n ih =>
    intro i G env hi hr h0 hx0 hx1 hs hn hii
    refine li_go hm l47_0.eq_1 ?_
    have hlt : i < l.length := by omega
    have hlt' : (i : Int) < l.length := by omega
    rw [List.drop_eq_getElem_cons hlt, wantL] at hr
    have hg := exL_get hlt
    have hlen := exL_len l
    have h46 := fun L => ok46 (H := H ++ L) (T := T) (rest := rest) (hh l[i] (List.getElem_mem hlt)) (get_app_l ho L) 2
    generalize l[i] = e at hr hg h46
    simp -implicitDefEqProofs [h0, hx0, hx1, hs, hn, hii, exS, hlt, hlt', hg, hlen, rp]
    refine ⟨by omega, callq_go (fun _ => h46 _) ?_⟩
    generalize wantF vs e 2 = w at hr ⊢
    by_cases hw : w.1 = 0
    · rw [if_neg (by simpa using hw)] at hr
      have hev : errV w.1 w.2 = .val .nilIface := by rw [hw]; rfl
      rw [hev]
      simp -implicitDefEqProofs [h0, hx0, hx1, hs, hn, hii]
      refine ih (i + 1) _ _ (by omega) hr ?_ ?_ ?_ ?_ ?_ ?_
      all_goals simp [h0, hx0, hx1, hs, hn, exS, rp, wrap_suc (show i < 9223372036854775807 by omega)]
    · rw [if_pos hw] at hr
      subst hr
      have hev := errV_of hw w.2
      rw [hev]
      simp -implicitDefEqProofs [h0, hx0, hx1, hs, hn, hii]
      refine hret hw _ _ ?_
      simp [hev]
end
def endF (vs : List (List UInt8)) (pl : Int) (x : StageP) : Int × Int := if (x.pays.length : Int) ≠ pl then (3, x.p) else wantL vs 1 x.pays
section
variable {H : List AO} {r : RulesP} {j : Nat}
theorem ok31 (ho : H[j]? = some (cO r)) {x : StageP} (hl : x.pays.length < 4611686018427387904) (hh : ∀ e ∈ x.pays, e.hgt ≤ 100000) : Ok Tryd.prog 31 [rp j, stageV x] H (.ret (errV (endF (namesOf r) r.pl x).1 (endF (namesOf r) r.pl x).2)) H := by
  have hj := getElem?_lt ho
  have e1 := fun L => oc_app ho rfl rfl L
  simp only [cO, tyO] at e1
  generalize hw : endF (namesOf r) r.pl x = w
  unfold endF at hw
  refine ok_fn hm Tryd.func31 c31 (by simp [rp]) fun hcl => ?_
  by_cases hp : (x.pays.length : Int) = r.pl
  · rw [if_neg (by simpa using hp)] at hw
    have hp' : decide ((x.pays.length : Int) = r.pl) = true := by simpa using hp
    simp -implicitDefEqProofs [i31, r31, rp, e1, stageV, StageP.c, exS, hp']
    refine LI.cong (H' := H ++ ⟨x.c, 74, 0, true⟩ :: []) (by simp [exS, StageP.c]) ?_
    refine loop31_0 (vs := namesOf r) (T := 52) hl hh ho (res := w) (fun h1 env G h4 => ?_) (fun h1 env G h0 => ?_) x.pays.length 0 [] _ (by omega) hw ?_ ?_ ?_ ?_
    · simp -implicitDefEqProofs [h4]
      refine cv_fz 3 hcl rfl ?_
      simp
    · rw [h1]
      simp -implicitDefEqProofs
      refine cv_fz 3 hcl rfl ?_
      simp [errV_0]
    all_goals simp [rp, exS]
  · rw [if_pos hp] at hw
    have hp' : decide ((x.pays.length : Int) = r.pl) = false := by simpa using hp
    subst hw
    simp -implicitDefEqProofs [i31, r31, rp, e1, stageV, StageP.c, exS, hp']
    refine call_go (ok28 (e := 3) (by decide) x.p) ?_
    simp -implicitDefEqProofs
    refine cv_fz 3 hcl rfl ?_
    simp
end
end Go.Proofs.YthmdmnfojbnobaaDoor

/- E12 -/
namespace Go.Proofs.YthmdmnfojbnobaaDoor
open Go.Ab
/-- The first fault of the players that see a deal. -/
def seenF (pl p : Int) : Int → List Int → Int × Int
  | _, [] => (0, 0)
  | q, n :: r => if n < 0 ∨ pl ≤ n then (2, p) else if n ≤ q then (9, p) else seenF pl p n r
def dealF (vs : List (List UInt8)) (pl : Int) (x : StageP) : Int × Int :=
  if x.nm ∉ vs then (7, x.p) else if x.lo < -1000000000 ∨ 1000000000 < x.lo ∨ x.hi < x.lo ∨ x.lo + 60 ≤ x.hi then (2, x.p) else if (wantL vs 1 x.wt).1 ≠ 0 then wantL vs 1 x.wt else seenF pl x.p (-1) x.seen
section
variable {H : List AO} {r : RulesP} {j : Nat}
theorem loop29_1 {x : StageP} (hl : x.seen.length < 4611686018427387904) (ho : H[j]? = some (cO r)) {N : Nat} {K : XE → Env → List AO → Prop} {res : Int × Int}
    (hret : res.1 ≠ 0 → ∀ env G, env.get 4 = errV res.1 res.2 → K .ret env (H ++ G)) (hexit : res = (0, 0) → ∀ env G, K (.exit 2) env (H ++ G)) :
    ∀ (n i : Nat) (q : Int) (G : List AO) (env : Env), i + n = x.seen.length → seenF r.pl x.p q (x.seen.drop i) = res → q = (if i = 0 then -1 else x.seen.getD (i - 1) 0) → env.get 0 = rp j → env.get 3 = rp H.length → env.get 63 = .slc (ints x.seen) x.seen.length → env.get 64 = i64 x.seen.length → env.get 65 = i64 i →
      LI Tryd.prog N drawB l29_1 env (H ++ ⟨x.c, 74, 0, true⟩ :: G) K := by
  have hj := getElem?_lt ho
  have e1 := fun L => oc_app ho rfl rfl L
  simp only [cO, tyO] at e1
  intro n
  induction n with
  | zero =>
    intro i q G env hi hr hq h0 h3 hs hn hii
    refine li_go hm l29_1.eq_1 ?_
    have e : i = x.seen.length := by omega
    subst e
    rw [List.drop_length] at hr
    simp -implicitDefEqProofs [h0, h3, hs, hn, hii]
    exact hexit hr.symm _ _
  | succ n ih =>
    intro i q G env hi hr hq h0 h3 hs hn hii
    refine li_go hm l29_1.eq_1 ?_
    have hlt : i < x.seen.length := by omega
    have hlt' : (i : Int) < x.seen.length := by omega
    rw [List.drop_eq_getElem_cons hlt, seenF] at hr
    obtain ⟨v, hv⟩ : ∃ v, x.seen[i] = v := ⟨_, rfl⟩
    rw [hv] at hr
    by_cases h1 : v < 0
    · rw [if_pos (.inl h1)] at hr
      subst hr
      simp -implicitDefEqProofs [h0, h3, hs, hn, hii, hlt, hlt', hv, h1, rp, e1, StageP.c, exS]
      refine ⟨by omega, call_go (ok28 (e := 2) (by decide) x.p) ?_⟩
      simp -implicitDefEqProofs
      refine hret (show ¬ (2 : Int) = 0 by decide) _ _ ?_
      simp
    by_cases h2 : r.pl ≤ v
    · rw [if_pos (.inr h2)] at hr
      subst hr
      simp -implicitDefEqProofs [h0, h3, hs, hn, hii, hlt, hlt', hv, h1, h2, rp, e1, StageP.c, exS]
      refine ⟨by omega, call_go (ok28 (e := 2) (by decide) x.p) ?_⟩
      simp -implicitDefEqProofs
      refine hret (show ¬ (2 : Int) = 0 by decide) _ _ ?_
      simp
    rw [if_neg (by omega)] at hr
    by_cases hz : i = 0
    · rw [if_pos hz] at hq
      rw [if_neg (by omega)] at hr
      have hp : ¬ (0 : Int) < (i : Int) := by omega
      have hp' : ¬ 0 < i := by omega
      simp -implicitDefEqProofs [h0, h3, hs, hn, hii, hlt, hlt', hv, h1, h2, rp, e1, StageP.c, exS, hp, hp']
      refine ⟨by omega, ?_⟩
      refine LI.cong ?_ (ih (i + 1) v G _ (by omega) hr ?_ ?_ ?_ ?_ ?_ ?_)
      · simp [StageP.c, exS]
      all_goals simp [h0, h3, hs, hn, rp, List.getD, hlt, hv, wrap_suc (show i < 9223372036854775807 by omega)]
    · rw [if_neg hz] at hq
      obtain ⟨k, hik⟩ : ∃ k, i - 1 = k := ⟨_, rfl⟩
      rw [hik] at hq
      have hk : k < x.seen.length := by omega
      have hk' : (k : Int) < x.seen.length := by omega
      obtain ⟨u, hu⟩ : ∃ u, x.seen[k] = u := ⟨_, rfl⟩
      have hqu : q = u := by simpa [List.getD, hk, hu] using hq
      subst hqu
      have w1 : IntKind.i64.wrap ((i : Int) - 1) = (k : Int) := by rw [wrap_id (by omega) (by omega)]; omega
      have hp : (0 : Int) < (i : Int) := by omega
      have hp' : 0 < i := by omega
      by_cases h4 : v ≤ q
      · rw [if_pos h4] at hr
        subst hr
        simp -implicitDefEqProofs [h0, h3, hs, hn, hii, hlt, hlt', hv, h1, h2, rp, e1, StageP.c, exS, hp, hp', w1, hk, hk', hu, h4]
        refine ⟨by omega, by omega, call_go (ok28 (e := 9) (by decide) x.p) ?_⟩
        simp -implicitDefEqProofs
        refine hret (show ¬ (9 : Int) = 0 by decide) _ _ ?_
        simp
      · rw [if_neg h4] at hr
        simp -implicitDefEqProofs [h0, h3, hs, hn, hii, hlt, hlt', hv, h1, h2, rp, e1, StageP.c, exS, hp, hp', w1, hk, hk', hu, h4]
        refine ⟨by omega, by omega, ?_⟩
        refine LI.cong ?_ (ih (i + 1) v G _ (by omega) hr ?_ ?_ ?_ ?_ ?_ ?_)
        · simp [StageP.c, exS]
        all_goals simp [h0, h3, hs, hn, rp, List.getD, hlt, hv, wrap_suc (show i < 9223372036854775807 by omega)]
theorem ok29 (ho : H[j]? = some (cO r)) {x : StageP} (hl : x.wt.length < 4611686018427387904) (hl2 : x.seen.length < 4611686018427387904) (hh : ∀ e ∈ x.wt, e.hgt ≤ 100000) : Ok Tryd.prog 29 [rp j, stageV x] H (.ret (errV (dealF (namesOf r) r.pl x).1 (dealF (namesOf r) r.pl x).2)) H := by
  have hj := getElem?_lt ho
  have e1 := fun L => oc_app ho rfl rfl L
  have h44 := fun L => ok44 (H := H ++ L) (T := 52) (get_app_l ho L) x.nm
  simp only [cO, tyO] at e1
  generalize hw : dealF (namesOf r) r.pl x = w
  unfold dealF at hw
  refine ok_fn hm Tryd.func29 c29 (by simp [rp]) fun hcl => ?_
  simp -implicitDefEqProofs [i29, r29, rp, e1, stageV, StageP.c, exS]
  refine callq_go (fun _ => h44 _) ?_
  by_cases h1 : x.nm ∈ namesOf r
  · rw [if_neg (by simpa using h1)] at hw
    by_cases a1 : x.lo < -1000000000
    · rw [if_pos (.inl a1)] at hw
      subst hw
      simp -implicitDefEqProofs [h1, a1, e1, stageV, StageP.c, exS]
      refine call_go (ok28 (e := 2) (by decide) x.p) ?_
      simp -implicitDefEqProofs
      refine cv_fz 3 hcl rfl ?_
      simp
    by_cases a2 : 1000000000 < x.lo
    · rw [if_pos (.inr (.inl a2))] at hw
      subst hw
      simp -implicitDefEqProofs [h1, a1, a2, e1, stageV, StageP.c, exS]
      refine call_go (ok28 (e := 2) (by decide) x.p) ?_
      simp -implicitDefEqProofs
      refine cv_fz 3 hcl rfl ?_
      simp
    by_cases a3 : x.hi < x.lo
    · rw [if_pos (.inr (.inr (.inl a3)))] at hw
      subst hw
      simp -implicitDefEqProofs [h1, a1, a2, a3, e1, stageV, StageP.c, exS]
      refine call_go (ok28 (e := 2) (by decide) x.p) ?_
      simp -implicitDefEqProofs
      refine cv_fz 3 hcl rfl ?_
      simp
    have w6 : IntKind.i64.wrap (x.lo + 60) = x.lo + 60 := wrap_id (by omega) (by omega)
    by_cases a4 : x.lo + 60 ≤ x.hi
    · rw [if_pos (.inr (.inr (.inr a4)))] at hw
      subst hw
      simp -implicitDefEqProofs [h1, a1, a2, a3, w6, a4, e1, stageV, StageP.c, exS]
      refine call_go (ok28 (e := 2) (by decide) x.p) ?_
      simp -implicitDefEqProofs
      refine cv_fz 3 hcl rfl ?_
      simp
    rw [if_neg (by omega)] at hw
    simp -implicitDefEqProofs [h1, a1, a2, a3, w6, a4, e1, stageV, StageP.c, exS]
    refine LI.cong (H' := H ++ ⟨x.c, 74, 0, true⟩ :: []) (by simp [exS, StageP.c]) ?_
    refine loop29_0 (vs := namesOf r) (T := 52) (x0 := rp H.length) hl hh ho (res := wantL (namesOf r) 1 x.wt) (fun h1 env G h4 => ?_) (fun h1 env G h0 h3 => ?_) x.wt.length 0 [] _ (by omega) rfl ?_ ?_ ?_ ?_ ?_
    · rw [if_pos h1] at hw
      subst hw
      simp -implicitDefEqProofs [h4]
      refine cv_fz 3 hcl rfl ?_
      simp
    · rw [h1, if_neg (by simp)] at hw
      simp -implicitDefEqProofs [h0, h3, rp, StageP.c]
      refine LI.cong (H' := H ++ ⟨x.c, 74, 0, true⟩ :: G) (by simp [exS, StageP.c]) ?_
      refine loop29_1 hl2 ho (res := w) (fun h1 env G h4 => ?_) (fun h1 env G => ?_) x.seen.length 0 (-1) G _ (by omega) hw rfl ?_ ?_ ?_ ?_ ?_
      · simp -implicitDefEqProofs [h4]
        refine cv_fz 3 hcl rfl ?_
        simp
      · rw [h1]
        simp -implicitDefEqProofs
        refine cv_fz 3 hcl rfl ?_
        simp [errV_0]
      all_goals simp [h0, h3, rp]
    all_goals simp [rp, exS]
  · rw [if_pos h1] at hw
    subst hw
    simp -implicitDefEqProofs [h1, stageV, StageP.c, exS]
    refine call_go (ok28 (e := 7) (by decide) x.p) ?_
    simp -implicitDefEqProofs
    refine cv_fz 3 hcl rfl ?_
    simp
end
end Go.Proofs.YthmdmnfojbnobaaDoor

/- E13 -/
namespace Go.Proofs.YthmdmnfojbnobaaDoor
open Go.Ab
/-- The first fault of settings. -/
def setF (vs : List (List UInt8)) : List SetP → Int × Int
  | [] => (0, 0)
  | s :: r => if s.nm ∉ vs then (7, s.p) else if (wantF vs s.e 1).1 ≠ 0 then wantF vs s.e 1 else setF vs r
def goF (stgs : List StageP) (i : Int) (a : ActP) : Int × Int :=
  if a.go = [] then (0, 0) else if findF stgs a.go < 0 then (7, a.p) else if findF stgs a.go ≤ i then (9, a.p) else (0, 0)
def actF (vs : List (List UInt8)) (stgs : List StageP) (i : Int) (a : ActP) : Int × Int :=
  if 1 < a.wh.length then (3, a.p) else if (wantL vs 2 a.wh).1 ≠ 0 then wantL vs 2 a.wh else if (setF vs a.sets).1 ≠ 0 then setF vs a.sets else goF stgs i a
theorem SetP.c_len7 (s : SetP) : s.c.length = 7 := by simp [SetP.c]
section
variable {H : List AO} {vs : List (List UInt8)} {rest : List SV} {r : RulesP} {j : Nat} {T : TypeId}
theorem loop47_1 {l : List SetP} (hl : l.length < 1099511627776) (hh : ∀ s ∈ l, s.e.hgt ≤ 100000) (ho : H[j]? = some (tyO (varsM vs) opsM rest T)) {N : Nat} {K : XE → Env → List AO → Prop} {A : AO} {res : Int × Int} {x0 x1 : SV}
    (hret : res.1 ≠ 0 → ∀ env G, env.get 6 = errV res.1 res.2 → K .ret env (H ++ A :: G)) (hexit : res = (0, 0) → ∀ env G, env.get 0 = rp j → env.get 1 = x0 → env.get 5 = x1 → K (.exit 2) env (H ++ A :: G)) :
    ∀ (n i : Nat) (G : List AO) (env : Env), i + n = l.length → setF vs (l.drop i) = res → env.get 0 = rp j → env.get 1 = x0 → env.get 5 = x1 → env.get 38 = .slc (rws SetP.c l) l.length → env.get 39 = i64 l.length → env.get 40 = i64 i →
      LI Tryd.prog N drawB l47_1 env (H ++ A :: G) K := by
  intro n
  induction n with
  | zero =>
    intro i G env hi hr h0 hx0 hx1 hs hn hii
    refine li_go hm l47_1.eq_1 ?_
    have e : i = l.length := by omega
    subst e
    rw [List.drop_length] at hr
    simp -implicitDefEqProofs [h0, hx0, hx1, hs, hn, hii]
    refine hexit hr.symm _ _ ?_ ?_ ?_ <;> simp [h0, hx0, hx1]
  | succ n ih =>
    intro i G env hi hr h0 hx0 hx1 hs hn hii
    refine li_go hm l47_1.eq_1 ?_
    have hlt : i < l.length := by omega
    have hlt' : (i : Int) < l.length := by omega
    rw [List.drop_eq_getElem_cons hlt, setF] at hr
    have hg := rws_c SetP.c_len7 hlt
    have hlen := rws_len SetP.c_len7 l
    have h46 := fun L => ok46 (H := H ++ L) (T := T) (rest := rest) (hh l[i] (List.getElem_mem hlt)) (get_app_l ho L) 1
    have h44 := fun L => ok44 (H := H ++ L) (T := T) (rest := rest) (get_app_l ho L) l[i].nm
    generalize l[i] = s at hr hg h46 h44
    obtain ⟨nm, ⟨op, m, en, el, ep⟩, p⟩ := s
    simp only [SetP.c, Ex.c, List.cons_append, List.nil_append] at hg
    simp only [Ex.v, Ex.c] at h46
    simp -implicitDefEqProofs [h0, hx0, hx1, hs, hn, hii, hlt, hlt', hg, hlen, rp]
    simp only at hr h44
    refine ⟨by omega, callq_go (fun _ => h44 _) ?_⟩
    by_cases h1 : nm ∈ vs
    · rw [if_neg (by simpa using h1)] at hr
      generalize wantF vs (.mk op m en el ep) 1 = w at hr h46
      simp -implicitDefEqProofs [h0, hx0, hx1, hs, hn, hii, h1, rp]
      refine callq_go (fun _ => h46 _) ?_
      by_cases hw : w.1 = 0
      · rw [if_neg (by simpa using hw)] at hr
        have hev : errV w.1 w.2 = .val .nilIface := by rw [hw]; rfl
        rw [hev]
        simp -implicitDefEqProofs [h0, hx0, hx1, hs, hn, hii]
        refine ih (i + 1) _ _ (by omega) hr ?_ ?_ ?_ ?_ ?_ ?_
        all_goals simp [h0, hx0, hx1, hs, hn, rp, wrap_suc (show i < 9223372036854775807 by omega)]
      · rw [if_pos hw] at hr
        subst hr
        have hev := errV_of hw w.2
        rw [hev]
        simp -implicitDefEqProofs [h0, hx0, hx1, hs, hn, hii]
        refine hret hw _ _ ?_
        simp [hev]
    · rw [if_pos h1] at hr
      subst hr
      simp -implicitDefEqProofs [h0, hx0, hx1, hs, hn, hii, h1, rp]
      refine call_go (ok28 (e := 7) (by decide) p) ?_
      simp -implicitDefEqProofs
      refine hret (show ¬ (7 : Int) = 0 by decide) _ _ ?_
      simp
theorem ok47 (ho : H[j]? = some (cO r)) (hl : r.stages.length < 4611686018427387904) {a : ActP} (hs2 : a.sets.length < 1099511627776) (hw2 : ∀ e ∈ a.wh, e.hgt ≤ 100000) (hh : ∀ s ∈ a.sets, s.e.hgt ≤ 100000) {i : Nat} (hi : i < 4611686018427387904) :
    Ok Tryd.prog 47 [rp j, i64 i, actV a] H (.ret (errV (actF (namesOf r) r.stages i a).1 (actF (namesOf r) r.stages i a).2)) H := by
  have hj := getElem?_lt ho
  have e1 := fun L => oc_app ho rfl rfl L
  simp only [cO, tyO] at e1
  generalize hw : actF (namesOf r) r.stages i a = w
  unfold actF at hw
  refine ok_fn hm Tryd.func47 c47 (by simp [rp]) fun hcl => ?_
  by_cases h1 : 1 < a.wh.length
  · rw [if_pos h1] at hw
    subst hw
    have h1' : (1 : Int) < a.wh.length := by omega
    simp -implicitDefEqProofs [i47, r47, rp, e1, actV, ActP.c, exS, h1, h1']
    refine call_go (ok28 (e := 3) (by decide) a.p) ?_
    simp -implicitDefEqProofs
    refine cv_fz 4 hcl rfl ?_
    simp
  rw [if_neg h1] at hw
  have h1' : ¬ (1 : Int) < a.wh.length := by omega
  simp -implicitDefEqProofs [i47, r47, rp, e1, actV, ActP.c, exS, h1, h1']
  refine LI.cong (H' := H ++ ⟨a.c, 102, 0, true⟩ :: []) (by simp [exS, ActP.c]) ?_
  refine loop47_0 (vs := namesOf r) (T := 52) (x0 := i64 i) (x1 := rp H.length) (by omega) hw2 ho (res := wantL (namesOf r) 2 a.wh) (fun h1 env G h4 => ?_) (fun h1 env G h0 hx0 hx1 => ?_) a.wh.length 0 [] _ (by omega) rfl ?_ ?_ ?_ ?_ ?_ ?_
  · rw [if_pos h1] at hw
    subst hw
    simp -implicitDefEqProofs [h4]
    refine cv_fz 4 hcl rfl ?_
    simp
  · rw [h1, if_neg (by simp)] at hw
    simp -implicitDefEqProofs [h0, hx0, hx1, rp, ActP.c]
    refine LI.cong (H' := H ++ ⟨a.c, 102, 0, true⟩ :: G) (by simp [exS, ActP.c]) ?_
    refine loop47_1 (vs := namesOf r) (T := 52) (x0 := i64 i) (x1 := rp H.length) hs2 hh ho (res := setF (namesOf r) a.sets) (fun h1 env G h4 => ?_) (fun h1 env G h0 hx0 hx1 => ?_) a.sets.length 0 G _ (by omega) rfl ?_ ?_ ?_ ?_ ?_ ?_
    · rw [if_pos h1] at hw
      subst hw
      simp -implicitDefEqProofs [h4]
      refine cv_fz 4 hcl rfl ?_
      simp
    · rw [h1, if_neg (by simp)] at hw
      unfold goF at hw
      by_cases h2 : a.go = []
      · rw [if_pos h2] at hw
        subst hw
        simp -implicitDefEqProofs [h0, hx0, hx1, rp, ActP.c, h2]
        refine cv_fz 4 hcl rfl ?_
        simp [errV_0]
      · rw [if_neg h2] at hw
        simp -implicitDefEqProofs [h0, hx0, hx1, rp, ActP.c, h2, e1]
        refine call_of (ok15 hl a.go) ?_
        generalize findF r.stages a.go = t at hw ⊢
        by_cases h3 : t < 0
        · rw [if_pos h3] at hw
          subst hw
          simp -implicitDefEqProofs [h0, hx0, hx1, rp, h3]
          refine call_go (ok28 (e := 7) (by decide) a.p) ?_
          simp -implicitDefEqProofs
          refine cv_fz 4 hcl rfl ?_
          simp
        rw [if_neg h3] at hw
        by_cases h4 : t ≤ (i : Int)
        · rw [if_pos h4] at hw
          subst hw
          simp -implicitDefEqProofs [h0, hx0, hx1, rp, h3, h4]
          refine call_go (ok28 (e := 9) (by decide) a.p) ?_
          simp -implicitDefEqProofs
          refine cv_fz 4 hcl rfl ?_
          simp
        · rw [if_neg h4] at hw
          subst hw
          simp -implicitDefEqProofs [h0, hx0, hx1, rp, h3, h4]
          refine cv_fz 4 hcl rfl ?_
          simp [errV_0]
    all_goals simp [h0, hx0, hx1, rp]
  all_goals simp [rp, exS]
end
end Go.Proofs.YthmdmnfojbnobaaDoor

/- E14 -/
namespace Go.Proofs.YthmdmnfojbnobaaDoor
open Go.Ab
/-- The first fault of the actions of a turn. -/
def actsF (vs : List (List UInt8)) (stgs : List StageP) (i : Int) : List (List UInt8) → List ActP → Int × Int
  | _, [] => (0, 0)
  | l, a :: r => if a.nm ∈ l then (8, a.p) else if (actF vs stgs i a).1 ≠ 0 then actF vs stgs i a else actsF vs stgs i (addS l a.nm) r
def turnF (vs : List (List UInt8)) (stgs : List StageP) (i : Int) (x : StageP) : Int × Int := match x.who with
  | [] => (0, 0)
  | e :: _ => if (wantF vs e 1).1 ≠ 0 then wantF vs e 1 else if x.acts.length < 1 ∨ 10 < x.acts.length then (3, x.p) else actsF vs stgs i [] x.acts
/-- What an action has to be for the model to hold it. -/
structure ActP.Ok (a : ActP) : Prop where
  sets : a.sets.length < 1099511627776
  wh : ∀ e ∈ a.wh, e.hgt ≤ 100000
  e : ∀ s ∈ a.sets, s.e.hgt ≤ 100000
section
variable {H : List AO} {r : RulesP} {j : Nat}
theorem loop30 {l : List ActP} (hl : l.length ≤ 10) (hh : ∀ a ∈ l, a.Ok) (ho : H[j]? = some (cO r)) (hstg : r.stages.length < 4611686018427387904) {st : Nat} (hst : st < 4611686018427387904) {N : Nat} {K : XE → Env → List AO → Prop} {A : AO} {res : Int × Int}
    (hret : res.1 ≠ 0 → ∀ env G, env.get 6 = errV res.1 res.2 → K .ret env (H ++ A :: G)) (hexit : res = (0, 0) → ∀ env G, K (.exit 0) env (H ++ A :: G)) :
    ∀ (n i : Nat) (m : List (List UInt8)) (G : List AO) (env : Env), i + n = l.length → actsF (namesOf r) r.stages st m (l.drop i) = res → env.get 0 = rp j → env.get 1 = i64 st → env.get 8 = .mp (H.length + 1) 0 → env.get 38 = .slc (rws ActP.c l) l.length → env.get 39 = i64 l.length → env.get 40 = i64 i →
      LI Tryd.prog N drawB l30_0 env (H ++ A :: vmO m :: G) K := by
  intro n
  induction n with
  | zero =>
    intro i m G env hi hr h0 h1 h8 hs hn hii
    refine li_go hm l30_0.eq_1 ?_
    have e : i = l.length := by omega
    subst e
    rw [List.drop_length] at hr
    simp -implicitDefEqProofs [h0, h1, h8, hs, hn, hii]
    exact hexit hr.symm _ _
  | succ n ih =>
    intro i m G env hi hr h0 h1 h8 hs hn hii
    refine li_go hm l30_0.eq_1 ?_
    have hlt : i < l.length := by omega
    have hlt' : (i : Int) < l.length := by omega
    rw [List.drop_eq_getElem_cons hlt, actsF] at hr
    have hg := rws_c ActP.c_len hlt
    have hlen := rws_len ActP.c_len l
    have hok := hh l[i] (List.getElem_mem hlt)
    have h47 := fun L => ok47 (H := H ++ L) (get_app_l ho L) hstg (a := l[i]) hok.sets hok.wh hok.e hst
    generalize l[i] = a at hr hg h47 hok
    have mo : ∀ G, SV.mapOf (H ++ A :: vmO m :: G) (.mp (H.length + 1) 0) = some (sks m, trues m.length) := fun G => by
      have : (H ++ A :: vmO m :: G)[H.length + 1]? = some (vmO m) := by simp
      simp only [SV.mapOf, this]; simp [vmO]
    have hal' : ∀ v ∈ sks m, KK.s.is v = true := fun v hv => List.all_eq_true.1 (sks_all m) v hv
    have hlk := lkm_s a.nm m
    simp only [ActP.c, exS] at hg
    simp only [actV, ActP.c, exS] at h47
    by_cases hv : a.nm ∈ m
    · rw [if_pos hv] at hr hlk
      subst hr
      simp -implicitDefEqProofs [h0, h1, h8, hs, hn, hii, hlt, hlt', hg, hlen, mo, hlk, exS]
      refine ⟨by omega, hal', call_go (ok28 (e := 8) (by decide) a.p) ?_⟩
      simp -implicitDefEqProofs
      refine hret (show ¬ (8 : Int) = 0 by decide) _ _ ?_
      simp
    · rw [if_neg hv] at hr hlk
      have e1 := setK_s a.nm m
      have e2 := setV_s a.nm m
      generalize actF (namesOf r) r.stages st a = w at hr h47
      simp -implicitDefEqProofs [h0, h1, h8, hs, hn, hii, hlt, hlt', hg, hlen, mo, hlk, exS]
      refine ⟨by omega, hal', s_mup_go (x := (sks m, trues m.length)) (mo _) rfl rfl (sks_all m) ?_⟩
      simp -implicitDefEqProofs [h0, h1, h8, hs, hn, hii, vmO, e1, e2, rp]
      refine call_go (h47 _) ?_
      by_cases hw : w.1 = 0
      · rw [if_neg (by simpa using hw)] at hr
        have hev : errV w.1 w.2 = .val .nilIface := by rw [hw]; rfl
        rw [hev]
        simp -implicitDefEqProofs [h0, h1, h8, hs, hn, hii]
        refine LI.cong ?_ (ih (i + 1) (addS m a.nm) (G ++ [⟨a.c, 102, 0, true⟩]) _ (by omega) hr ?_ ?_ ?_ ?_ ?_ ?_)
        · simp [vmO, ActP.c, exS]
        all_goals simp [h0, h1, h8, hs, hn, rp, wrap_suc (show i < 9223372036854775807 by omega)]
      · rw [if_pos hw] at hr
        subst hr
        have hev := errV_of hw w.2
        rw [hev]
        simp -implicitDefEqProofs [h0, h1, h8, hs, hn, hii]
        refine hret hw _ _ ?_
        simp [hev]
theorem ok30 (ho : H[j]? = some (cO r)) (hl : r.stages.length < 4611686018427387904) {x : StageP} (hx : x.acts.length < 4611686018427387904) {e0 : Ex} {wr : List Ex} (hwho : x.who = e0 :: wr) (he0 : e0.hgt ≤ 100000) (hh : ∀ a ∈ x.acts, a.Ok) {i : Nat} (hi : i < 4611686018427387904) :
    Ok Tryd.prog 30 [rp j, i64 i, stageV x] H (.ret (errV (turnF (namesOf r) r.stages i x).1 (turnF (namesOf r) r.stages i x).2)) H := by
  have hj := getElem?_lt ho
  have e1 := fun L => oc_app ho rfl rfl L
  simp only [cO, tyO] at e1
  have h46 := fun L => ok46 (H := H ++ L) (T := 52) (vs := namesOf r) he0 (get_app_l ho L) 1
  generalize hw : turnF (namesOf r) r.stages i x = w
  unfold turnF at hw
  rw [hwho] at hw
  simp only at hw
  refine ok_fn hm Tryd.func30 c30 (by simp [rp]) fun hcl => ?_
  generalize hq : wantF (namesOf r) e0 1 = q at hw h46
  obtain ⟨op, m, en, el, ep⟩ := e0
  simp only [Ex.v, Ex.c] at h46
  simp -implicitDefEqProofs [i30, r30, rp, e1, stageV, StageP.c, exS, hwho, Ex.cL, Ex.c]
  refine callq_go (fun _ => h46 _) ?_
  by_cases hw1 : q.1 = 0
  · rw [if_neg (by simpa using hw1)] at hw
    have hev : errV q.1 q.2 = .val .nilIface := by rw [hw1]; rfl
    rw [hev]
    by_cases a1 : x.acts.length < 1
    · rw [if_pos (.inl a1)] at hw
      subst hw
      have a1' : (x.acts.length : Int) < 1 := by omega
      simp -implicitDefEqProofs [rp, a1, a1']
      refine call_go (ok28 (e := 3) (by decide) x.p) ?_
      simp -implicitDefEqProofs
      refine cv_fz 3 hcl rfl ?_
      simp
    by_cases a2 : 10 < x.acts.length
    · rw [if_pos (.inr a2)] at hw
      subst hw
      have a1' : ¬ (x.acts.length : Int) < 1 := by omega
      have a2' : (10 : Int) < x.acts.length := by omega
      simp -implicitDefEqProofs [rp, a1, a1', a2, a2']
      refine call_go (ok28 (e := 3) (by decide) x.p) ?_
      simp -implicitDefEqProofs
      refine cv_fz 3 hcl rfl ?_
      simp
    rw [if_neg (by omega)] at hw
    have a1' : decide ((x.acts.length : Int) < 1) = false := by simp; omega
    have a2' : decide ((10 : Int) < x.acts.length) = false := by simp; omega
    simp -implicitDefEqProofs [rp, a1', a2']
    refine LI.cong (H' := H ++ ⟨x.c, 74, 0, true⟩ :: vmO [] :: []) (by simp [exS, StageP.c, vmO, hwho, Ex.cL, Ex.c, sks, trues]) ?_
    refine loop30 (by omega) hh ho hl hi (res := w) (fun h1 env G h4 => ?_) (fun h1 env G => ?_) x.acts.length 0 [] [] _ (by omega) hw ?_ ?_ ?_ ?_ ?_ ?_
    · simp -implicitDefEqProofs [h4]
      refine cv_fz 4 hcl rfl ?_
      simp
    · rw [h1]
      simp -implicitDefEqProofs
      refine cv_fz 4 hcl rfl ?_
      simp [errV_0]
    all_goals simp [rp]
  · rw [if_pos hw1] at hw
    subst hw
    have hev := errV_of hw1 q.2
    rw [hev]
    simp -implicitDefEqProofs
    refine cv_fz 3 hcl rfl ?_
    rw [← hev]; simp
end
end Go.Proofs.YthmdmnfojbnobaaDoor

/- E15 -/
namespace Go.Proofs.YthmdmnfojbnobaaDoor
open Go.Ab
def stageF (vs : List (List UInt8)) (pl : Int) (stgs : List StageP) (i : Int) (x : StageP) : Int × Int :=
  if 1 < x.wt.length ∨ (x.k = 2 ∧ x.who.length ≠ 1) then (3, x.p) else if x.k = 1 then dealF vs pl x else if x.k = 2 then turnF vs stgs i x else if x.k = 3 then endF vs pl x else (3, x.p)
/-- The first fault of stages. -/
def stagesF (vs : List (List UInt8)) (pl : Int) (stgs : List StageP) : Nat → List StageP → Int × Int
  | _, [] => (0, 0)
  | i, x :: r => if (stageF vs pl stgs (i : Int) x).1 ≠ 0 then stageF vs pl stgs (i : Int) x else stagesF vs pl stgs (i + 1) r
/-- What a stage has to be for the model to hold it. -/
structure StageP.Ok (x : StageP) : Prop where
  wt : ∀ e ∈ x.wt, e.hgt ≤ 100000
  seen : x.seen.length < 4611686018427387904
  who : ∀ e ∈ x.who, e.hgt ≤ 100000
  acts : x.acts.length < 4611686018427387904
  act : ∀ a ∈ x.acts, a.Ok
  lp : x.pays.length < 4611686018427387904
  pays : ∀ e ∈ x.pays, e.hgt ≤ 100000
section
variable {H : List AO} {r : RulesP} {j : Nat}
theorem loop21 (hl : r.stages.length < 4611686018427387904) (hh : ∀ x ∈ r.stages, x.Ok) (ho : H[j]? = some (cO r)) {N : Nat} {K : XE → Env → List AO → Prop} {res : Int × Int}
    (hret : res.1 ≠ 0 → ∀ env G, env.get 2 = errV res.1 res.2 → K .ret env (H ++ G)) (hexit : res = (0, 0) → ∀ env G, K (.exit 0) env (H ++ G)) :
    ∀ (n i : Nat) (G : List AO) (env : Env), i + n = r.stages.length → stagesF (namesOf r) r.pl r.stages i (r.stages.drop i) = res → env.get 0 = rp j → env.get 10 = stgsV r.stages → env.get 11 = i64 r.stages.length → env.get 12 = i64 i →
      LI Tryd.prog N drawB l21_0 env (H ++ G) K := by
  intro n
  induction n with
  | zero =>
    intro i G env hi hr h0 hs hn hii
    refine li_go hm l21_0.eq_1 ?_
    have e : i = r.stages.length := by omega
    subst e
    rw [List.drop_length] at hr
    simp -implicitDefEqProofs [h0, hs, hn, hii]
    exact hexit hr.symm _ _
  | succ n ih =>
    intro i G env hi hr h0 hs hn hii
    refine li_go hm l21_0.eq_1 ?_
    have hlt : i < r.stages.length := by omega
    have hlt' : (i : Int) < r.stages.length := by omega
    rw [List.drop_eq_getElem_cons hlt, stagesF] at hr
    have hg := rws_c StageP.c_len hlt
    have hlen := rws_len StageP.c_len r.stages
    have hok := hh r.stages[i] (List.getElem_mem hlt)
    generalize r.stages[i] = x at hr hg hok
    have hob := fun L => get_app_l ho L
    simp only [StageP.c, exS] at hg
    have hsv : stageV x = .agg [i64 x.k, st (B x.lb), st (B x.nm), i64 x.lo, i64 x.hi, .slc (Ex.cL x.wt) x.wt.length, bl x.all, .slc (ints x.seen) x.seen.length, .slc (Ex.cL x.who) x.who.length, .slc (rws ActP.c x.acts) x.acts.length, .slc (Ex.cL x.pays) x.pays.length, i64 x.p] := rfl
    generalize hw : stageF (namesOf r) r.pl r.stages i x = w at hr
    unfold stageF at hw
    have h28 : ∀ L, (3, x.p) = w → Ok Tryd.prog 28 [i64 3, i64 x.p] L (.ret (errV w.1 w.2)) L := fun L h => by subst h; exact ok28 (e := 3) (by decide) x.p
    by_cases w1 : 1 < x.wt.length
    · rw [if_pos (.inl w1)] at hw
      have w1' : decide ((1 : Int) < x.wt.length) = true := by simp; omega
      simp -implicitDefEqProofs [h0, hs, hn, hii, stgsV, hlt, hlt', hg, hlen, rp, w1']
      refine ⟨by omega, call_go (out := .ret (errV w.1 w.2)) (h28 _ hw) ?_⟩
      by_cases hw1 : w.1 = 0
      · rw [if_neg (by simpa using hw1)] at hr
        have hev : errV w.1 w.2 = .val .nilIface := by rw [hw1]; rfl
        rw [hev]
        simp -implicitDefEqProofs [h0, hs, hn, hii]
        refine LI.cong ?_ (ih (i + 1) (G ++ [⟨x.c, 74, 0, true⟩]) _ (by omega) hr ?_ ?_ ?_ ?_)
        · simp [StageP.c, exS]
        all_goals simp [h0, hs, hn, rp, stgsV, wrap_suc (show i < 9223372036854775807 by omega)]
      · rw [if_pos hw1] at hr
        subst hr
        have hev := errV_of hw1 w.2
        rw [hev]
        simp -implicitDefEqProofs [h0, hs, hn, hii]
        refine hret hw1 _ _ ?_
        simp [hev]
    have w1' : decide ((1 : Int) < x.wt.length) = false := by simp; omega
    by_cases w2 : x.k = 2
    · by_cases w3 : x.who.length = 1
      · rw [if_neg (by omega), if_neg (by omega), if_pos w2] at hw
        obtain ⟨e0, hwho⟩ := List.length_eq_one_iff.1 w3
        have w3' : decide ((x.who.length : Int) = 1) = true := by simp; omega
        have k1 : decide (x.k = 1) = false := by simp; omega
        have k2 : decide (x.k = 2) = true := by simp; omega
        simp -implicitDefEqProofs [h0, hs, hn, hii, stgsV, hlt, hlt', hg, hlen, rp, w1', k1, k2, w3']
        refine ⟨by omega, call_go (out := .ret (errV w.1 w.2)) (hw ▸ hsv ▸ ok30 (hob _) hl hok.acts hwho (hok.who e0 (by simp [hwho])) hok.act (by omega)) ?_⟩
        by_cases hw1 : w.1 = 0
        · rw [if_neg (by simpa using hw1)] at hr
          have hev : errV w.1 w.2 = .val .nilIface := by rw [hw1]; rfl
          rw [hev]
          simp -implicitDefEqProofs [h0, hs, hn, hii]
          refine LI.cong ?_ (ih (i + 1) (G ++ [⟨x.c, 74, 0, true⟩]) _ (by omega) hr ?_ ?_ ?_ ?_)
          · simp [StageP.c, exS]
          all_goals simp [h0, hs, hn, rp, stgsV, wrap_suc (show i < 9223372036854775807 by omega)]
        · rw [if_pos hw1] at hr
          subst hr
          have hev := errV_of hw1 w.2
          rw [hev]
          simp -implicitDefEqProofs [h0, hs, hn, hii]
          refine hret hw1 _ _ ?_
          simp [hev]
      · rw [if_pos (.inr ⟨w2, w3⟩)] at hw
        have w3' : decide ((x.who.length : Int) = 1) = false := by simp; omega
        have k1 : decide (x.k = 1) = false := by simp; omega
        have k2 : decide (x.k = 2) = true := by simp; omega
        simp -implicitDefEqProofs [h0, hs, hn, hii, stgsV, hlt, hlt', hg, hlen, rp, w1', k1, k2, w3']
        refine ⟨by omega, call_go (out := .ret (errV w.1 w.2)) (h28 _ hw) ?_⟩
        by_cases hw1 : w.1 = 0
        · rw [if_neg (by simpa using hw1)] at hr
          have hev : errV w.1 w.2 = .val .nilIface := by rw [hw1]; rfl
          rw [hev]
          simp -implicitDefEqProofs [h0, hs, hn, hii]
          refine LI.cong ?_ (ih (i + 1) (G ++ [⟨x.c, 74, 0, true⟩]) _ (by omega) hr ?_ ?_ ?_ ?_)
          · simp [StageP.c, exS]
          all_goals simp [h0, hs, hn, rp, stgsV, wrap_suc (show i < 9223372036854775807 by omega)]
        · rw [if_pos hw1] at hr
          subst hr
          have hev := errV_of hw1 w.2
          rw [hev]
          simp -implicitDefEqProofs [h0, hs, hn, hii]
          refine hret hw1 _ _ ?_
          simp [hev]
    rw [if_neg (by omega)] at hw
    by_cases w3 : x.k = 1
    · rw [if_pos w3] at hw
      have k1 : decide (x.k = 1) = true := by simp; omega
      have k2 : decide (x.k = 2) = false := by simp; omega
      simp -implicitDefEqProofs [h0, hs, hn, hii, stgsV, hlt, hlt', hg, hlen, rp, w1', k1, k2]
      refine ⟨by omega, call_go (out := .ret (errV w.1 w.2)) (hw ▸ hsv ▸ ok29 (hob _) (by omega) hok.seen hok.wt) ?_⟩
      by_cases hw1 : w.1 = 0
      · rw [if_neg (by simpa using hw1)] at hr
        have hev : errV w.1 w.2 = .val .nilIface := by rw [hw1]; rfl
        rw [hev]
        simp -implicitDefEqProofs [h0, hs, hn, hii]
        refine LI.cong ?_ (ih (i + 1) (G ++ [⟨x.c, 74, 0, true⟩]) _ (by omega) hr ?_ ?_ ?_ ?_)
        · simp [StageP.c, exS]
        all_goals simp [h0, hs, hn, rp, stgsV, wrap_suc (show i < 9223372036854775807 by omega)]
      · rw [if_pos hw1] at hr
        subst hr
        have hev := errV_of hw1 w.2
        rw [hev]
        simp -implicitDefEqProofs [h0, hs, hn, hii]
        refine hret hw1 _ _ ?_
        simp [hev]
    rw [if_neg w3, if_neg w2] at hw
    by_cases w4 : x.k = 3
    · rw [if_pos w4] at hw
      have k1 : decide (x.k = 1) = false := by simp; omega
      have k2 : decide (x.k = 2) = false := by simp; omega
      have k3 : decide (x.k = 3) = true := by simp; omega
      simp -implicitDefEqProofs [h0, hs, hn, hii, stgsV, hlt, hlt', hg, hlen, rp, w1', k1, k2, k3]
      refine ⟨by omega, call_go (out := .ret (errV w.1 w.2)) (hw ▸ hsv ▸ ok31 (hob _) hok.lp hok.pays) ?_⟩
      by_cases hw1 : w.1 = 0
      · rw [if_neg (by simpa using hw1)] at hr
        have hev : errV w.1 w.2 = .val .nilIface := by rw [hw1]; rfl
        rw [hev]
        simp -implicitDefEqProofs [h0, hs, hn, hii]
        refine LI.cong ?_ (ih (i + 1) (G ++ [⟨x.c, 74, 0, true⟩]) _ (by omega) hr ?_ ?_ ?_ ?_)
        · simp [StageP.c, exS]
        all_goals simp [h0, hs, hn, rp, stgsV, wrap_suc (show i < 9223372036854775807 by omega)]
      · rw [if_pos hw1] at hr
        subst hr
        have hev := errV_of hw1 w.2
        rw [hev]
        simp -implicitDefEqProofs [h0, hs, hn, hii]
        refine hret hw1 _ _ ?_
        simp [hev]
    · rw [if_neg w4] at hw
      have k1 : decide (x.k = 1) = false := by simp; omega
      have k2 : decide (x.k = 2) = false := by simp; omega
      have k3 : decide (x.k = 3) = false := by simp; omega
      simp -implicitDefEqProofs [h0, hs, hn, hii, stgsV, hlt, hlt', hg, hlen, rp, w1', k1, k2, k3]
      refine ⟨by omega, call_go (out := .ret (errV w.1 w.2)) (h28 _ hw) ?_⟩
      by_cases hw1 : w.1 = 0
      · rw [if_neg (by simpa using hw1)] at hr
        have hev : errV w.1 w.2 = .val .nilIface := by rw [hw1]; rfl
        rw [hev]
        simp -implicitDefEqProofs [h0, hs, hn, hii]
        refine LI.cong ?_ (ih (i + 1) (G ++ [⟨x.c, 74, 0, true⟩]) _ (by omega) hr ?_ ?_ ?_ ?_)
        · simp [StageP.c, exS]
        all_goals simp [h0, hs, hn, rp, stgsV, wrap_suc (show i < 9223372036854775807 by omega)]
      · rw [if_pos hw1] at hr
        subst hr
        have hev := errV_of hw1 w.2
        rw [hev]
        simp -implicitDefEqProofs [h0, hs, hn, hii]
        refine hret hw1 _ _ ?_
        simp [hev]
end
end Go.Proofs.YthmdmnfojbnobaaDoor

/- E16 -/
namespace Go.Proofs.YthmdmnfojbnobaaDoor
open Go.Ab
def firstF : List (Int × Int) → Int × Int
  | [] => (0, 0)
  | w :: r => if w.1 ≠ 0 then w else firstF r
/-- The first fault of rules. -/
def checkF (r : RulesP) : Int × Int := firstF [plF r, varF [] r.vars, labF [] r.stages, lastF r.stages, stagesF (namesOf r) r.pl r.stages 0 r.stages]
section
variable {H : List AO} {r : RulesP} {j : Nat}
theorem ok21 (ho : H[j]? = some (cO r)) (hl : r.stages.length < 4611686018427387904) (hh : ∀ x ∈ r.stages, x.Ok) : Ok Tryd.prog 21 [rp j] H (.ret (errV (stagesF (namesOf r) r.pl r.stages 0 r.stages).1 (stagesF (namesOf r) r.pl r.stages 0 r.stages).2)) H := by
  have hj := getElem?_lt ho
  have e1 := fun L => oc_app ho rfl rfl L
  have e0 : objCells H j 0 = (cO r).cells := objCells_of ho rfl
  simp only [cO, tyO, stgsV] at e1 e0
  generalize hw : stagesF (namesOf r) r.pl r.stages 0 r.stages = w
  refine ok_fn hm Tryd.func21 c21 (by simp [rp]) fun hcl => ?_
  simp -implicitDefEqProofs [i21, r21, rp, e0, e1]
  refine LI.cong (H' := H ++ []) (by simp) ?_
  refine loop21 hl hh ho (res := w) (fun h1 env G h4 => ?_) (fun h1 env G => ?_) r.stages.length 0 [] _ (by omega) hw ?_ ?_ ?_ ?_
  · simp -implicitDefEqProofs [h4]
    refine cv_fz 3 hcl rfl ?_
    simp
  · rw [h1]
    simp -implicitDefEqProofs
    refine cv_fz 3 hcl rfl ?_
    simp [errV_0]
  all_goals simp [rp, stgsV]
def stepsO (fs : List Nat) (j : Nat) : List SV := fs.map fun k => .fn (.func k) [rp j] []
theorem loop16 {fs : List Nat} {ws : List (Int × Int)} {q T : Nat} (hf : fs.length = 5) (hws : ws.length = 5) (hq : H[q]? = some ⟨stepsO fs j, T, 0, true⟩) (hall : ∀ i (h1 : i < fs.length) (h2 : i < ws.length) L, Ok Tryd.prog fs[i] [rp j] (H ++ L) (.ret (errV ws[i].1 ws[i].2)) (H ++ L)) {N : Nat} {K : XE → Env → List AO → Prop} {res : Int × Int}
    (hret : res.1 ≠ 0 → ∀ env G, env.get 2 = errV res.1 res.2 → K .ret env (H ++ G)) (hexit : res = (0, 0) → ∀ env G, K (.exit 0) env (H ++ G)) :
    ∀ (n i : Nat) (G : List AO) (env : Env), i + n = 5 → firstF (ws.drop i) = res → env.get 6 = .own q 0 5 1 0 → env.get 7 = i64 5 → env.get 8 = i64 i →
      LI Tryd.prog N drawB l16_0 env (H ++ G) K := by
  have hj := getElem?_lt hq
  have e1 := fun L => oc_app hq rfl rfl L
  intro n
  induction n with
  | zero =>
    intro i G env hi hr hs hn hii
    refine li_go hm l16_0.eq_1 ?_
    have e : i = 5 := by omega
    subst e
    rw [List.drop_of_length_le (by omega)] at hr
    simp -implicitDefEqProofs [hs, hn, hii]
    exact hexit hr.symm _ _
  | succ n ih =>
    intro i G env hi hr hs hn hii
    refine li_go hm l16_0.eq_1 ?_
    have hlt : i < fs.length := by omega
    have hlt2 : i < ws.length := by omega
    have hlt5 : i < 5 := by omega
    have hlt' : (i : Int) < 5 := by omega
    rw [List.drop_eq_getElem_cons hlt2, firstF] at hr
    have h := hall i hlt hlt2
    have hc : ∀ h, (stepsO fs j)[i]'h = .fn (.func fs[i]) [rp j] [] := fun h => by simp [stepsO]
    have hsl : (stepsO fs j).length = 5 := by simp [stepsO, hf]
    generalize ws[i] = w at hr h
    generalize fs[i] = k at h hc
    simp -implicitDefEqProofs [hs, hn, hii, hlt', hlt5, e1, hj, hc, hsl]
    refine ⟨by omega, call_of (h _) ?_⟩
    by_cases hw : w.1 = 0
    · rw [if_neg (by simpa using hw)] at hr
      have hev : errV w.1 w.2 = .val .nilIface := by rw [hw]; rfl
      rw [hev]
      simp -implicitDefEqProofs [hs, hn, hii]
      refine ih (i + 1) _ _ (by omega) hr ?_ ?_ ?_
      all_goals simp [hs, hn, wrap_suc (show i < 9223372036854775807 by omega)]
    · rw [if_pos hw] at hr
      subst hr
      have hev := errV_of hw w.2
      rw [hev]
      simp -implicitDefEqProofs [hs, hn, hii]
      refine hret hw _ _ ?_
      simp [hev]
theorem ok16 {fs : List Nat} {ws : List (Int × Int)} {q T : Nat} (hf : fs.length = 5) (hws : ws.length = 5) (hq : H[q]? = some ⟨stepsO fs j, T, 0, true⟩) (hall : ∀ i (h1 : i < fs.length) (h2 : i < ws.length) L, Ok Tryd.prog fs[i] [rp j] (H ++ L) (.ret (errV ws[i].1 ws[i].2)) (H ++ L)) :
    Ok Tryd.prog 16 [.own q 0 5 1 0] H (.ret (errV (firstF ws).1 (firstF ws).2)) H := by
  have hj := getElem?_lt hq
  generalize hw : firstF ws = w
  refine ok_fn hm Tryd.func16 c16 (by simp) fun hcl => ?_
  simp -implicitDefEqProofs [i16, r16]
  refine LI.cong (H' := H ++ []) (by simp) ?_
  refine loop16 hf hws hq hall (res := w) (fun h1 env G h4 => ?_) (fun h1 env G => ?_) 5 0 [] _ (by omega) hw ?_ ?_ ?_
  · simp -implicitDefEqProofs [h4]
    refine cv_fz 3 hcl rfl ?_
    simp
  · rw [h1]
    simp -implicitDefEqProofs
    refine cv_fz 3 hcl rfl ?_
    simp [errV_0]
  all_goals simp
/-- What rules have to be for the model to hold them. -/
structure RulesP.Ok (r : RulesP) : Prop where
  vars : r.vars.length < 1099511627776
  stages : r.stages.length < 4611686018427387904
  st : ∀ x ∈ r.stages, x.Ok
theorem firstF_0 : ∀ l : List (Int × Int), (firstF l).1 = 0 → firstF l = (0, 0)
  | [], _ => rfl
  | w :: l, h => by
    rw [firstF] at h ⊢
    by_cases hw : w.1 = 0
    · rw [if_neg (by simpa using hw)] at h ⊢
      exact firstF_0 l h
    · rw [if_pos hw] at h
      exact absurd h hw
theorem ok6 (hr : r.Ok) : Ok Tryd.prog 6 [rulesV r] H (.ret (.agg [i64 (checkF r).1, i64 (checkF r).2])) H := by
  have h14 := fun H => ok14 (H := H) (r := r) hr.vars
  have h13 := fun H => ok13 (H := H) (vs := namesOf r) (by have := hr.vars; simp [namesOf]; omega)
  generalize hw : checkF r = w
  simp only [rulesV, RulesP.c] at h14
  refine ok_fn hm Tryd.func6 c6 (by simp) fun hcl => ?_
  simp -implicitDefEqProofs [i6, r6, rulesV, RulesP.c]
  refine callq_go (fun _ => h14 _) ?_
  simp -implicitDefEqProofs
  refine callq_go (fun _ => h13 _) ?_
  simp -implicitDefEqProofs [typV]
  have hc : ∀ L, Ok Tryd.prog 16 [.own (H.length + 3) 0 5 1 0] (H ++ ⟨r.c, 30, 0, true⟩ :: ⟨[i64 0, i64 0], 25, 0, true⟩ :: cO r :: ⟨stepsO [17, 18, 19, 20, 21] (H.length + 2), 57, 0, true⟩ :: L) (.ret (errV w.1 w.2)) (H ++ ⟨r.c, 30, 0, true⟩ :: ⟨[i64 0, i64 0], 25, 0, true⟩ :: cO r :: ⟨stepsO [17, 18, 19, 20, 21] (H.length + 2), 57, 0, true⟩ :: L) := fun L => by
    rw [← hw]
    refine ok16 (j := H.length + 2) (T := 57) (fs := [17, 18, 19, 20, 21]) rfl rfl (by simp) fun i h1 h2 L2 => ?_
    have ho : ((H ++ ⟨r.c, 30, 0, true⟩ :: ⟨[i64 0, i64 0], 25, 0, true⟩ :: cO r :: ⟨stepsO [17, 18, 19, 20, 21] (H.length + 2), 57, 0, true⟩ :: L) ++ L2)[H.length + 2]? = some (cO r) := by
      rw [List.append_assoc, List.getElem?_append_right (by omega), show H.length + 2 - H.length = 2 by omega]; rfl
    have hst := hr.stages
    rcases i with _ | _ | _ | _ | _ | i
    · exact ok17 ho
    · exact ok18 ho (by have := hr.vars; omega)
    · exact ok19 ho hr.stages
    · exact ok20 ho hr.stages
    · exact ok21 ho hr.stages hr.st
    · exact absurd h1 (by simp)
  refine ⟨⟨rfl, rfl, rfl⟩, call_go (hc []) ?_⟩
  by_cases h0 : w.1 = 0
  · have hev : errV w.1 w.2 = .val .nilIface := by rw [h0]; rfl
    rw [hev]
    simp -implicitDefEqProofs
    have hw0 : w = (0, 0) := by subst hw; exact firstF_0 _ h0
    rw [hw0]
    refine cv_fz 4 hcl rfl ?_
    simp
  · have hev := errV_of h0 w.2
    have h22 := fun L => ok22 (H := L) h0 w.2
    rw [hev] at h22
    rw [hev]
    simp -implicitDefEqProofs
    refine call_go (h22 _) ?_
    simp -implicitDefEqProofs [fltV]
    refine cv_fz 4 hcl rfl ?_
    simp
end
end Go.Proofs.YthmdmnfojbnobaaDoor

/- E17 -/
namespace Go.Proofs.YthmdmnfojbnobaaDoor
open Go.Ab
def xS : List (List UInt8) := [[120]]
def okA (a : ActP) : Bool := decide (a.sets.length < 1099511627776) && (a.wh.all (fun e => decide (e.hgt ≤ 100000)) && a.sets.all (fun s => decide (s.e.hgt ≤ 100000)))
def okS (x : StageP) : Bool := x.wt.all (fun e => decide (e.hgt ≤ 100000)) && (decide (x.seen.length < 4611686018427387904) && (x.who.all (fun e => decide (e.hgt ≤ 100000)) && (decide (x.acts.length < 4611686018427387904) && (x.acts.all okA && (decide (x.pays.length < 4611686018427387904) && x.pays.all (fun e => decide (e.hgt ≤ 100000)))))))
def okR (r : RulesP) : Bool := decide (r.vars.length < 1099511627776) && (decide (r.stages.length < 4611686018427387904) && r.stages.all okS)
theorem okA_ok {a : ActP} (h : okA a = true) : a.Ok := by
  simp only [okA, Bool.and_eq_true, decide_eq_true_eq, List.all_eq_true] at h
  exact ⟨h.1, h.2.1, h.2.2⟩
theorem okS_ok {x : StageP} (h : okS x = true) : x.Ok := by
  simp only [okS, Bool.and_eq_true, decide_eq_true_eq, List.all_eq_true] at h
  obtain ⟨h1, h2, h3, h4, h5, h6, h7⟩ := h
  exact ⟨h1, h2, h3, h4, fun a ha => okA_ok (h5 a ha), h6, h7⟩
theorem okR_ok {r : RulesP} (h : okR r = true) : r.Ok := by
  simp only [okR, Bool.and_eq_true, decide_eq_true_eq, List.all_eq_true] at h
  exact ⟨h.1, h.2.1, fun x hx => okS_ok (h.2.2 x hx)⟩
section
variable {H : List AO} {l : List UInt8}
theorem ok12 (hl : l.length < 4611686018427387904) : Ok Tryd.prog 12 [st (B l)] H (.ret (exprR l).1.v) H := by
  have h := fun H => ok25 (H := H) hl
  generalize exprR l = q at h ⊢
  obtain ⟨⟨op, n, nm, es, p⟩, e, at_⟩ := q
  simp only [Ex.v, Ex.c] at h
  refine ok_fn hm Tryd.func12 c12 (by simp) fun hcl => ?_
  simp -implicitDefEqProofs [i12, r12, Ex.v, Ex.c]
  refine call_go (h _) ?_
  simp -implicitDefEqProofs [fltV]
  refine cv_fz 4 hcl rfl ?_
  simp
theorem ok7 (hl : l.length < 4611686018427387904) : Ok Tryd.prog 7 [st (B l)] H (.ret (rulesV (parseR l).1)) H := by
  have h := fun H => ok23 (H := H) hl
  generalize parseR l = q at h ⊢
  obtain ⟨⟨nm, pl, vs, ss⟩, e, at_⟩ := q
  simp only [rulesV, RulesP.c] at h
  refine ok_fn hm Tryd.func7 c7 (by simp) fun hcl => ?_
  simp -implicitDefEqProofs [i7, r7, rulesV, RulesP.c]
  refine call_go (h _) ?_
  simp -implicitDefEqProofs [fltV]
  refine cv_fz 4 hcl rfl ?_
  simp
theorem ok5 (hl : l.length < 4611686018427387904) {k e p : Int} (hh : decide ((exprR l).1.hgt ≤ 100000) = true) (ht : tyE xS (exprR l).1 = (k, e, p)) : Ok Tryd.prog 5 [st (B l), i64 k, i64 e, i64 p] H (.ret (bl true)) H := by
  have h := fun H => ok12 (H := H) hl
  have h10 := fun H x (hx : IsS H x xS) => ok10x (H := H) (vs := xS) hx (of_decide_eq_true hh) (by decide)
  rw [ht] at h10
  refine ok_fn hm Tryd.func5 c5 (by simp) fun hcl => ?_
  simp -implicitDefEqProofs [i5, r5]
  refine call_go (h _) ?_
  simp -implicitDefEqProofs
  refine call_go (h10 _ _ (IsS.own1 (T := 9) (k := 0) rfl rfl)) ?_
  simp -implicitDefEqProofs [fltV]
  refine cv_fz 4 hcl rfl ?_
  simp
end
end Go.Proofs.YthmdmnfojbnobaaDoor

/- E18 -/
namespace Go.Proofs.YthmdmnfojbnobaaDoor
open Go.Ab
section
variable {H : List AO}
theorem ex0 : Ok Tryd.prog 5 [st ⟨#[49, 32, 43, 32, 120]⟩, i64 1, i64 0, i64 0] H (.ret (bl true)) H := ok5 (l := [49, 32, 43, 32, 120]) (by decide) (by kernel_rfl) (by kernel_rfl)
theorem ex1 : Ok Tryd.prog 5 [st ⟨#[120, 32, 60, 32, 50, 32, 97, 110, 100, 32, 110, 111, 116, 32, 120, 32, 61, 61, 32, 49]⟩, i64 2, i64 0, i64 0] H (.ret (bl true)) H := ok5 (l := [120, 32, 60, 32, 50, 32, 97, 110, 100, 32, 110, 111, 116, 32, 120, 32, 61, 61, 32, 49]) (by decide) (by kernel_rfl) (by kernel_rfl)
theorem ex2 : Ok Tryd.prog 5 [st ⟨#[105, 102, 40, 120, 32, 60, 32, 49, 44, 32, 50, 44, 32, 120, 41]⟩, i64 1, i64 0, i64 0] H (.ret (bl true)) H := ok5 (l := [105, 102, 40, 120, 32, 60, 32, 49, 44, 32, 50, 44, 32, 120, 41]) (by decide) (by kernel_rfl) (by kernel_rfl)
theorem ex3 : Ok Tryd.prog 5 [st ⟨#[121]⟩, i64 0, i64 7, i64 0] H (.ret (bl true)) H := ok5 (l := [121]) (by decide) (by kernel_rfl) (by kernel_rfl)
theorem ex4 : Ok Tryd.prog 5 [st ⟨#[49, 32, 43, 32, 40, 120, 32, 60, 32, 50, 41]⟩, i64 0, i64 10, i64 7] H (.ret (bl true)) H := ok5 (l := [49, 32, 43, 32, 40, 120, 32, 60, 32, 50, 41]) (by decide) (by kernel_rfl) (by kernel_rfl)
theorem ex5 : Ok Tryd.prog 5 [st ⟨#[105, 102, 40, 49, 44, 32, 50, 44, 32, 51, 41]⟩, i64 0, i64 10, i64 3] H (.ret (bl true)) H := ok5 (l := [105, 102, 40, 49, 44, 32, 50, 44, 32, 51, 41]) (by decide) (by kernel_rfl) (by kernel_rfl)
theorem ex6 : Ok Tryd.prog 5 [st ⟨#[105, 102, 40, 120, 32, 60, 32, 49, 44, 32, 50, 44, 32, 120, 32, 60, 32, 51, 41]⟩, i64 0, i64 10, i64 15] H (.ret (bl true)) H := ok5 (l := [105, 102, 40, 120, 32, 60, 32, 49, 44, 32, 50, 44, 32, 120, 32, 60, 32, 51, 41]) (by decide) (by kernel_rfl) (by kernel_rfl)
def rt0 : List UInt8 := [103, 97, 109, 101, 32, 103, 59, 32, 112, 108, 97, 121, 101, 114, 115, 32, 53, 59, 32, 101, 110, 100, 32, 123, 32, 112, 97, 121, 32, 49, 59, 32, 125]
def rr0 : RulesP := (parseR rt0).1
theorem ra0 : Ok Tryd.prog 7 [st ⟨#[103, 97, 109, 101, 32, 103, 59, 32, 112, 108, 97, 121, 101, 114, 115, 32, 53, 59, 32, 101, 110, 100, 32, 123, 32, 112, 97, 121, 32, 49, 59, 32, 125]⟩] H (.ret (rulesV rr0)) H := ok7 (l := rt0) (by decide)
theorem rc0 : checkF rr0 = (2, 0) := by kernel_rfl
theorem rb0 : Ok Tryd.prog 6 [rulesV rr0] H (.ret (.agg [i64 2, i64 0])) H := by
  have := ok6 (H := H) (r := rr0) (okR_ok (by kernel_rfl))
  rwa [rc0] at this
def rt1 : List UInt8 := [103, 97, 109, 101, 32, 103, 59, 32, 112, 108, 97, 121, 101, 114, 115, 32, 50, 59, 32, 101, 110, 100, 32, 123, 32, 112, 97, 121, 32, 49, 44, 32, 50, 59, 32, 125]
def rr1 : RulesP := (parseR rt1).1
theorem ra1 : Ok Tryd.prog 7 [st ⟨#[103, 97, 109, 101, 32, 103, 59, 32, 112, 108, 97, 121, 101, 114, 115, 32, 50, 59, 32, 101, 110, 100, 32, 123, 32, 112, 97, 121, 32, 49, 44, 32, 50, 59, 32, 125]⟩] H (.ret (rulesV rr1)) H := ok7 (l := rt1) (by decide)
theorem rc1 : checkF rr1 = (0, 0) := by kernel_rfl
theorem rb1 : Ok Tryd.prog 6 [rulesV rr1] H (.ret (.agg [i64 0, i64 0])) H := by
  have := ok6 (H := H) (r := rr1) (okR_ok (by kernel_rfl))
  rwa [rc1] at this
def rt2 : List UInt8 := [103, 97, 109, 101, 32, 103, 59, 32, 112, 108, 97, 121, 101, 114, 115, 32, 50, 59, 32, 101, 110, 100, 32, 123, 32, 112, 97, 121, 32, 49, 59, 32, 125]
def rr2 : RulesP := (parseR rt2).1
theorem ra2 : Ok Tryd.prog 7 [st ⟨#[103, 97, 109, 101, 32, 103, 59, 32, 112, 108, 97, 121, 101, 114, 115, 32, 50, 59, 32, 101, 110, 100, 32, 123, 32, 112, 97, 121, 32, 49, 59, 32, 125]⟩] H (.ret (rulesV rr2)) H := ok7 (l := rt2) (by decide)
theorem rc2 : checkF rr2 = (3, 19) := by kernel_rfl
theorem rb2 : Ok Tryd.prog 6 [rulesV rr2] H (.ret (.agg [i64 3, i64 19])) H := by
  have := ok6 (H := H) (r := rr2) (okR_ok (by kernel_rfl))
  rwa [rc2] at this
def rt3 : List UInt8 := [103, 97, 109, 101, 32, 103, 59, 32, 112, 108, 97, 121, 101, 114, 115, 32, 50, 59, 32, 101, 110, 100, 32, 123, 32, 112, 97, 121, 32, 49, 44, 32, 49, 32, 60, 32, 50, 59, 32, 125]
def rr3 : RulesP := (parseR rt3).1
theorem ra3 : Ok Tryd.prog 7 [st ⟨#[103, 97, 109, 101, 32, 103, 59, 32, 112, 108, 97, 121, 101, 114, 115, 32, 50, 59, 32, 101, 110, 100, 32, 123, 32, 112, 97, 121, 32, 49, 44, 32, 49, 32, 60, 32, 50, 59, 32, 125]⟩] H (.ret (rulesV rr3)) H := ok7 (l := rt3) (by decide)
theorem rc3 : checkF rr3 = (10, 34) := by kernel_rfl
theorem rb3 : Ok Tryd.prog 6 [rulesV rr3] H (.ret (.agg [i64 10, i64 34])) H := by
  have := ok6 (H := H) (r := rr3) (okR_ok (by kernel_rfl))
  rwa [rc3] at this
def rt4 : List UInt8 := [103, 97, 109, 101, 32, 103, 59, 32, 112, 108, 97, 121, 101, 114, 115, 32, 49, 59, 32, 97, 58, 32, 116, 117, 114, 110, 32, 48, 32, 123, 32, 97, 99, 116, 105, 111, 110, 32, 108, 32, 123, 32, 125, 32, 103, 111, 116, 111, 32, 97, 59, 32, 125, 32, 101, 110, 100, 32, 123, 32, 112, 97, 121, 32, 48, 59, 32, 125]
def rr4 : RulesP := (parseR rt4).1
theorem ra4 : Ok Tryd.prog 7 [st ⟨#[103, 97, 109, 101, 32, 103, 59, 32, 112, 108, 97, 121, 101, 114, 115, 32, 49, 59, 32, 97, 58, 32, 116, 117, 114, 110, 32, 48, 32, 123, 32, 97, 99, 116, 105, 111, 110, 32, 108, 32, 123, 32, 125, 32, 103, 111, 116, 111, 32, 97, 59, 32, 125, 32, 101, 110, 100, 32, 123, 32, 112, 97, 121, 32, 48, 59, 32, 125]⟩] H (.ret (rulesV rr4)) H := ok7 (l := rt4) (by decide)
theorem rc4 : checkF rr4 = (9, 31) := by kernel_rfl
theorem rb4 : Ok Tryd.prog 6 [rulesV rr4] H (.ret (.agg [i64 9, i64 31])) H := by
  have := ok6 (H := H) (r := rr4) (okR_ok (by kernel_rfl))
  rwa [rc4] at this
def rt5 : List UInt8 := [103, 97, 109, 101, 32, 103, 59, 32, 112, 108, 97, 121, 101, 114, 115, 32, 49, 59, 32, 116, 117, 114, 110, 32, 48, 32, 123, 32, 97, 99, 116, 105, 111, 110, 32, 108, 32, 123, 32, 125, 32, 97, 99, 116, 105, 111, 110, 32, 108, 32, 123, 32, 125, 32, 125, 32, 101, 110, 100, 32, 123, 32, 112, 97, 121, 32, 48, 59, 32, 125]
def rr5 : RulesP := (parseR rt5).1
theorem ra5 : Ok Tryd.prog 7 [st ⟨#[103, 97, 109, 101, 32, 103, 59, 32, 112, 108, 97, 121, 101, 114, 115, 32, 49, 59, 32, 116, 117, 114, 110, 32, 48, 32, 123, 32, 97, 99, 116, 105, 111, 110, 32, 108, 32, 123, 32, 125, 32, 97, 99, 116, 105, 111, 110, 32, 108, 32, 123, 32, 125, 32, 125, 32, 101, 110, 100, 32, 123, 32, 112, 97, 121, 32, 48, 59, 32, 125]⟩] H (.ret (rulesV rr5)) H := ok7 (l := rt5) (by decide)
theorem rc5 : checkF rr5 = (8, 41) := by kernel_rfl
theorem rb5 : Ok Tryd.prog 6 [rulesV rr5] H (.ret (.agg [i64 8, i64 41])) H := by
  have := ok6 (H := H) (r := rr5) (okR_ok (by kernel_rfl))
  rwa [rc5] at this
def rt6 : List UInt8 := [103, 97, 109, 101, 32, 103, 59, 32, 112, 108, 97, 121, 101, 114, 115, 32, 49, 59, 32, 116, 117, 114, 110, 32, 48, 32, 123, 32, 97, 99, 116, 105, 111, 110, 32, 108, 32, 123, 32, 125, 32, 125]
def rr6 : RulesP := (parseR rt6).1
theorem ra6 : Ok Tryd.prog 7 [st ⟨#[103, 97, 109, 101, 32, 103, 59, 32, 112, 108, 97, 121, 101, 114, 115, 32, 49, 59, 32, 116, 117, 114, 110, 32, 48, 32, 123, 32, 97, 99, 116, 105, 111, 110, 32, 108, 32, 123, 32, 125, 32, 125]⟩] H (.ret (rulesV rr6)) H := ok7 (l := rt6) (by decide)
theorem rc6 : checkF rr6 = (3, 19) := by kernel_rfl
theorem rb6 : Ok Tryd.prog 6 [rulesV rr6] H (.ret (.agg [i64 3, i64 19])) H := by
  have := ok6 (H := H) (r := rr6) (okR_ok (by kernel_rfl))
  rwa [rc6] at this
def rt7 : List UInt8 := [103, 97, 109, 101, 32, 103, 59, 32, 112, 108, 97, 121, 101, 114, 115, 32, 49, 59, 32, 118, 97, 114, 32, 120, 32, 61, 32, 48, 59, 32, 100, 101, 97, 108, 32, 120, 32, 105, 110, 32, 48, 32, 46, 46, 32, 53, 57, 59, 32, 101, 110, 100, 32, 123, 32, 112, 97, 121, 32, 48, 59, 32, 125]
def rr7 : RulesP := (parseR rt7).1
theorem ra7 : Ok Tryd.prog 7 [st ⟨#[103, 97, 109, 101, 32, 103, 59, 32, 112, 108, 97, 121, 101, 114, 115, 32, 49, 59, 32, 118, 97, 114, 32, 120, 32, 61, 32, 48, 59, 32, 100, 101, 97, 108, 32, 120, 32, 105, 110, 32, 48, 32, 46, 46, 32, 53, 57, 59, 32, 101, 110, 100, 32, 123, 32, 112, 97, 121, 32, 48, 59, 32, 125]⟩] H (.ret (rulesV rr7)) H := ok7 (l := rt7) (by decide)
theorem rc7 : checkF rr7 = (0, 0) := by kernel_rfl
theorem rb7 : Ok Tryd.prog 6 [rulesV rr7] H (.ret (.agg [i64 0, i64 0])) H := by
  have := ok6 (H := H) (r := rr7) (okR_ok (by kernel_rfl))
  rwa [rc7] at this
def rt8 : List UInt8 := [103, 97, 109, 101, 32, 103, 59, 32, 112, 108, 97, 121, 101, 114, 115, 32, 49, 59, 32, 118, 97, 114, 32, 120, 32, 61, 32, 48, 59, 32, 100, 101, 97, 108, 32, 120, 32, 105, 110, 32, 48, 32, 46, 46, 32, 54, 48, 59, 32, 101, 110, 100, 32, 123, 32, 112, 97, 121, 32, 48, 59, 32, 125]
def rr8 : RulesP := (parseR rt8).1
theorem ra8 : Ok Tryd.prog 7 [st ⟨#[103, 97, 109, 101, 32, 103, 59, 32, 112, 108, 97, 121, 101, 114, 115, 32, 49, 59, 32, 118, 97, 114, 32, 120, 32, 61, 32, 48, 59, 32, 100, 101, 97, 108, 32, 120, 32, 105, 110, 32, 48, 32, 46, 46, 32, 54, 48, 59, 32, 101, 110, 100, 32, 123, 32, 112, 97, 121, 32, 48, 59, 32, 125]⟩] H (.ret (rulesV rr8)) H := ok7 (l := rt8) (by decide)
theorem rc8 : checkF rr8 = (2, 30) := by kernel_rfl
theorem rb8 : Ok Tryd.prog 6 [rulesV rr8] H (.ret (.agg [i64 2, i64 30])) H := by
  have := ok6 (H := H) (r := rr8) (okR_ok (by kernel_rfl))
  rwa [rc8] at this
def rt9 : List UInt8 := [103, 97, 109, 101, 32, 103, 59, 32, 112, 108, 97, 121, 101, 114, 115, 32, 52, 59, 32, 101, 110, 100, 32, 123, 32, 112, 97, 121, 32, 48, 44, 32, 48, 44, 32, 48, 44, 32, 48, 59, 32, 125]
def rr9 : RulesP := (parseR rt9).1
theorem ra9 : Ok Tryd.prog 7 [st ⟨#[103, 97, 109, 101, 32, 103, 59, 32, 112, 108, 97, 121, 101, 114, 115, 32, 52, 59, 32, 101, 110, 100, 32, 123, 32, 112, 97, 121, 32, 48, 44, 32, 48, 44, 32, 48, 44, 32, 48, 59, 32, 125]⟩] H (.ret (rulesV rr9)) H := ok7 (l := rt9) (by decide)
theorem rc9 : checkF rr9 = (0, 0) := by kernel_rfl
theorem rb9 : Ok Tryd.prog 6 [rulesV rr9] H (.ret (.agg [i64 0, i64 0])) H := by
  have := ok6 (H := H) (r := rr9) (okR_ok (by kernel_rfl))
  rwa [rc9] at this
theorem ok8 : Ok Tryd.prog 8 [] H (.ret (bl true)) H := by
  refine ok_fn hm Tryd.func8 c8 (by simp) fun hcl => ?_
  simp -implicitDefEqProofs [i8, r8]
  refine call_go ex0 ?_
  simp -implicitDefEqProofs
  refine callq_go (fun _ => ex1) ?_
  simp -implicitDefEqProofs
  refine callq_go (fun _ => ra0) ?_
  simp -implicitDefEqProofs
  refine callq_st (fun _ => rb0) ?_
  simp -implicitDefEqProofs
  exact cv_id
theorem ok3 : Ok Tryd.prog 3 [] H (.ret (bl true)) H := by
  refine ok_fn hm Tryd.func3 c3 (by simp) fun hcl => ?_
  simp -implicitDefEqProofs [i3, r3]
  refine call_go ex2 ?_
  simp -implicitDefEqProofs
  refine callq_go (fun _ => ex3) ?_
  simp -implicitDefEqProofs
  refine callq_go (fun _ => ex4) ?_
  simp -implicitDefEqProofs
  refine callq_go (fun _ => ex5) ?_
  simp -implicitDefEqProofs
  refine callq_go (fun _ => ex6) ?_
  simp -implicitDefEqProofs
  refine call_go (ra1) ?_
  simp -implicitDefEqProofs
  refine call_go (rb1) ?_
  simp -implicitDefEqProofs
  refine callq_go (fun _ => ra2) ?_
  simp -implicitDefEqProofs
  refine callq_st (fun _ => rb2) ?_
  simp -implicitDefEqProofs
  refine callq_go (fun _ => ra3) ?_
  simp -implicitDefEqProofs
  refine callq_st (fun _ => rb3) ?_
  simp -implicitDefEqProofs
  refine call_go (ra4) ?_
  simp -implicitDefEqProofs
  refine call_go (rb4) ?_
  simp -implicitDefEqProofs
  refine callq_go (fun _ => ra5) ?_
  simp -implicitDefEqProofs
  refine callq_st (fun _ => rb5) ?_
  simp -implicitDefEqProofs
  refine callq_go (fun _ => ra6) ?_
  simp -implicitDefEqProofs
  refine callq_st (fun _ => rb6) ?_
  simp -implicitDefEqProofs
  refine call_go (ra7) ?_
  simp -implicitDefEqProofs
  refine call_go (rb7) ?_
  simp -implicitDefEqProofs
  refine callq_go (fun _ => ra8) ?_
  simp -implicitDefEqProofs
  refine callq_st (fun _ => rb8) ?_
  simp -implicitDefEqProofs
  refine callq_go (fun _ => ra9) ?_
  simp -implicitDefEqProofs
  refine callq_st (fun _ => rb9) ?_
  simp -implicitDefEqProofs
  refine call_go ok8 ?_
  simp -implicitDefEqProofs
  exact cv_id
end
end Go.Proofs.YthmdmnfojbnobaaDoor

/- E19 -/
namespace Go.Proofs.YthmdmnfojbnobaaDoor
open Go.Ab Go.ChangeShapes Go.WideShapes Go.ChangeAt Go.RowKit
def laid3 : List (String × DataW Unit) := [("errors.errorType", Rows.laid_errors_errorType)]
theorem own : ownKnob Tryd.prog.godebug = none := by kernel_rfl
theorem laidOut : laidOutB Tryd.prog = true := by kernel_rfl
theorem gE : Tryd.prog.globalNamed "errors.errorType" = some 0 := by kernel_rfl
theorem rtE : (Tryd.prog.cutTypes.find? (·.1 == "internal/reflectlite.rtype")).map (·.2) = some 129 := by kernel_rfl
theorem size : Tryd.prog.types.size = 172 := by kernel_rfl
theorem oneRow : ((List.range 172).filter fun t => Tryd.prog.rowNamed t [101, 114, 114, 111, 114]) = [55] := by kernel_rfl
theorem door_met (os : Os) (args : Array Value) : laidMetH Tryd.prog laid3 ((World.doorLaid Tryd.prog 400 os).forCall (fun _ _ => 0) ⟨#[], args, []⟩).memory :=
  laidMetH_of_parts3 (fuel := 8) (laidMet_of_run' 8 (by kernel_rfl) (by kernel_rfl)) (by kernel_rfl) (by kernel_rfl)
theorem gl_of {W : World} (h : laidMetH Tryd.prog laid3 W) : (st0 W).GL := by
  have h' : laidMet Tryd.prog [] W ∧ handlesMet Tryd.prog [("errors.errorType", Rows.laid_errors_errorType)] W := h
  obtain ⟨_, hh⟩ := h'
  obtain ⟨name, u, ty, e1, e2, e3, e4, e5⟩ := hh _ (List.mem_singleton.2 rfl)
  have en : name = [101, 114, 114, 111, 114] := (Option.some.inj e1).symm
  subst en
  obtain rfl := Option.some.inj (rtE.symm.trans e2)
  have hm : ty ∈ (List.range 172).filter fun t => Tryd.prog.rowNamed t [101, 114, 114, 111, 114] := List.mem_filter.2 ⟨List.mem_range.2 (by rw [← size]; exact e3), e4⟩
  rw [oneRow] at hm
  obtain rfl := List.mem_singleton.1 hm
  have hh : typeHandle Tryd.prog 55 = .pointer (some ⟨1, 55, none⟩) := by kernel_rfl
  rw [hh] at e5
  have key : ∀ (g : Nat) (nm : String) (cs : Array Value) (us : List Value), Tryd.prog.globalNamed nm = some g → W.var? Tryd.prog nm = some cs → cs.toList = us → (st0 W).Imm ⟨g, 0, none⟩ us := by
    intro g nm cs us h1 h2 h3
    refine ⟨fun j u hj => ?_, fun _ => rw0 W _⟩
    have := World.var?_cell h1 h2 j
    have e : ((⟨g, 0, none⟩ : Addr).add j) = ⟨g, j, none⟩ := by unfold Addr.add; split <;> simp_all
    rw [e]
    show W.cell? _ = _
    rw [this, ← Array.getElem?_toList, h3]; exact hj
  intro g us hg
  match g, hg with
  | 0, hg => cases hg; exact key 0 _ _ _ gE e5 rfl
end Go.Proofs.YthmdmnfojbnobaaDoor

/- E20 -/
namespace Go.Proofs.YthmdmnfojbnobaaDoor
open Go Go.Ab Go.ChangeShapes Go.WideShapes Go.ChangeAt Go.RowKit
theorem leaves_of_alone {P : Program} {last : Machine} {w : World} {t : Trace} (h : aloneAtReturn P last w t) : leavingAtReturn P last w t := by
  obtain ⟨⟨h1, h2⟩, h3, h4⟩ := h
  refine ⟨h3, ⟨fun g hg => ⟨0, ?_⟩, h2⟩, h4⟩
  unfold Machine.othersDone at h1
  have h5 := List.all_eq_true.1 h1 g hg
  show g.status = .finished
  exact beq_iff_eq.1 h5
theorem leaving_of_handed {a : Assume} {C : Checked} {os : Os} {f : FuncId} {r : Reach} {Pre : World → Array Value → Prop} {Post : World → Array Value → Value → World → Prop}
    (h : ReturnsInHanded a C os f r Pre Post) : ReturnsInLeavingWide a C os f r Pre Post := fun e =>
  ReturnsInOpen.mono (fun _ _ _ x => leaves_of_alone x) (fun _ x => x) (h e)
theorem tied_goes (Lk : Looks) {p : Pinned} {s : OpenSpec} {c : OpenClaim} (kinds : List LaidKind) (tests : Bool) (har : Bool × String) (lk : Bool)
    (hc : c.holds p s) (hw : c.wfByText s = true)
    (htie : c.laidByTextAt Lk p kinds tests)
    (hst : c.start = .entering) (hnb : c.noBlocks = false ∧ c.again = false) (hm : p.checked.prog.mainIs = some (har.1, har.2.toList)) (hn : (!har.1 && har.2.isEmpty && !lk) = false)
    (hl : ∀ f fn, p.checked.prog.funcNamed c.func = some f → p.checked.prog.funcs[f]? = some fn → lk = p.checked.prog.looks [] ∧ ∀ (j : Nat) t, fn.params[j]? = some t → p.checked.prog.wantsStandIn t = false)
    (hg : true = c.goesBy p.checked.prog) :
    Claim7.holds p (.plain s) { stood := { row := c, standIns := [], harness := har, looks := lk }, kinds := [], alts := [], goes := true, laidByText := true, laidKinds := kinds, laidTests := tests, laidLooks := Lk } := by
  have h6 : ∀ r : OpenClaim, Claim7.isSixth { stood := { row := r, standIns := [], harness := har, looks := lk }, kinds := [] } = false := fun r => by simpa [Claim7.isSixth] using hn
  exact ⟨Claim7.tied_new_at Lk kinds tests (Claim7.new_of_sixth hc har lk hst hnb hm (h6 c) hl) hw, (fun D hD => by cases hD), htie, (fun h => by cases h), hg⟩
end Go.Proofs.YthmdmnfojbnobaaDoor

