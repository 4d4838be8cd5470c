/-
  Steps of the proof: contracts of functions and plain facts that the statement rests on.
-/
import Derived.Test.YthmdmnfojbnobaaDoorPart2
import Derived.Test.YthmdmnfojbnobaaDoorCore4
import Derived.LaidMore
import Derived.OpenShut
import Derived.Stop.Joined
import Derived.LaidHandle
import Derived.Conc.Holds
import Derived.SevenTiedAt
set_option linter.all false
/- E11 -/
namespace Go.Proofs.YthmdmnfojbnobaaDoor
open Go.Ab
/-- The first fault of expressions that have to be of a kind. -/
def wantL (vs : List (List UInt8)) (k : Int) : List Ex → Int × Int
  | [] => (0, 0)
  | e :: r => if (wantF vs e k).1 ≠ 0 then wantF vs e k else wantL vs k r
section
variable {H : List AO} {vs : List (List UInt8)} {rest : List SV} {j : Nat} {T : TypeId}
theorem loop29_0 {l : List Ex} (hl : l.length < 4611686018427387904) (hh : ∀ e ∈ l, e.hgt ≤ 100000) (ho : H[j]? = some (tyO (varsM vs) opsM rest T)) {N : Nat} {K : XE → Env → List AO → Prop} {A : AO} {res : Int × Int} {x0 : SV}
    (hret : res.1 ≠ 0 → ∀ env G, env.get 4 = errV res.1 res.2 → K .ret env (H ++ A :: G)) (hexit : res = (0, 0) → ∀ env G, env.get 0 = rp j → env.get 3 = x0 → K (.exit 0) env (H ++ A :: G)) :
    ∀ (n i : Nat) (G : List AO) (env : Env), i + n = l.length → wantL vs 1 (l.drop i) = res → env.get 0 = rp j → env.get 3 = x0 → env.get 47 = exS l → env.get 48 = i64 l.length → env.get 49 = i64 i →
      LI Tryd.prog N drawB l29_0 env (H ++ A :: G) K := by
  intro n
  induction n with
  | zero =>
    intro i G env hi hr h0 hx0 hs hn hii
    refine li_go hm l29_0.eq_1 ?_
    have e : i = l.length := by omega
    subst e
    rw [List.drop_length] at hr
    simp -implicitDefEqProofs [h0, hx0, hs, hn, hii]
    refine hexit hr.symm _ _ ?_ ?_ <;> simp [h0, hx0]
  | succ n ih =>
    intro i G env hi hr h0 hx0 hs hn hii
    refine li_go hm l29_0.eq_1 ?_
    have hlt : i < l.length := by omega
    have hlt' : (i : Int) < l.length := by omega
    rw [List.drop_eq_getElem_cons hlt, wantL] at hr
    have hg := exL_get hlt
    have hlen := exL_len l
    have h46 := fun L => ok46 (H := H ++ L) (T := T) (rest := rest) (hh l[i] (List.getElem_mem hlt)) (get_app_l ho L) 1
    generalize l[i] = e at hr hg h46
    simp -implicitDefEqProofs [h0, hx0, hs, hn, hii, exS, hlt, hlt', hg, hlen, rp]
    refine ⟨by omega, callq_go (fun _ => h46 _) ?_⟩
    generalize wantF vs e 1 = w at hr ⊢
    by_cases hw : w.1 = 0
    · rw [if_neg (by simpa using hw)] at hr
      have hev : errV w.1 w.2 = .val .nilIface := by rw [hw]; rfl
      rw [hev]
      simp -implicitDefEqProofs [h0, hx0, hs, hn, hii]
      refine ih (i + 1) _ _ (by omega) hr ?_ ?_ ?_ ?_ ?_
      all_goals simp [h0, hx0, hs, hn, exS, rp, wrap_suc (show i < 9223372036854775807 by omega)]
    · rw [if_pos hw] at hr
      subst hr
      have hev := errV_of hw w.2
      rw [hev]
      simp -implicitDefEqProofs [h0, hx0, hs, hn, hii]
      refine hret hw _ _ ?_
      simp [hev]
theorem loop31_0 {l : List Ex} (hl : l.length < 4611686018427387904) (hh : ∀ e ∈ l, e.hgt ≤ 100000) (ho : H[j]? = some (tyO (varsM vs) opsM rest T)) {N : Nat} {K : XE → Env → List AO → Prop} {A : AO} {res : Int × Int}
    (hret : res.1 ≠ 0 → ∀ env G, env.get 4 = errV res.1 res.2 → K .ret env (H ++ A :: G)) (hexit : res = (0, 0) → ∀ env G, env.get 0 = rp j → K (.exit 0) env (H ++ A :: G)) :
    ∀ (n i : Nat) (G : List AO) (env : Env), i + n = l.length → wantL vs 1 (l.drop i) = res → env.get 0 = rp j → env.get 21 = exS l → env.get 22 = i64 l.length → env.get 23 = i64 i →
      LI Tryd.prog N drawB l31_0 env (H ++ A :: G) K := by
  intro n
  induction n with
  | zero =>
    intro i G env hi hr h0 hs hn hii
    refine li_go hm l31_0.eq_1 ?_
    have e : i = l.length := by omega
    subst e
    rw [List.drop_length] at hr
    simp -implicitDefEqProofs [h0, hs, hn, hii]
    refine hexit hr.symm _ _ ?_ <;> simp [h0]
  | succ n ih =>
    intro i G env hi hr h0 hs hn hii
    refine li_go hm l31_0.eq_1 ?_
    have hlt : i < l.length := by omega
    have hlt' : (i : Int) < l.length := by omega
    rw [List.drop_eq_getElem_cons hlt, wantL] at hr
    have hg := exL_get hlt
    have hlen := exL_len l
    have h46 := fun L => ok46 (H := H ++ L) (T := T) (rest := rest) (hh l[i] (List.getElem_mem hlt)) (get_app_l ho L) 1
    generalize l[i] = e at hr hg h46
    simp -implicitDefEqProofs [h0, hs, hn, hii, exS, hlt, hlt', hg, hlen, rp]
    refine ⟨by omega, callq_go (fun _ => h46 _) ?_⟩
    generalize wantF vs e 1 = w at hr ⊢
    by_cases hw : w.1 = 0
    · rw [if_neg (by simpa using hw)] at hr
      have hev : errV w.1 w.2 = .val .nilIface := by rw [hw]; rfl
      rw [hev]
      simp -implicitDefEqProofs [h0, hs, hn, hii]
      refine ih (i + 1) _ _ (by omega) hr ?_ ?_ ?_ ?_
      all_goals simp [h0, hs, hn, exS, rp, wrap_suc (show i < 9223372036854775807 by omega)]
    · rw [if_pos hw] at hr
      subst hr
      have hev := errV_of hw w.2
      rw [hev]
      simp -implicitDefEqProofs [h0, hs, hn, hii]
      refine hret hw _ _ ?_
      simp [hev]
theorem loop47_0 {l : List Ex} (hl : l.length < 4611686018427387904) (hh : ∀ e ∈ l, e.hgt ≤ 100000) (ho : H[j]? = some (tyO (varsM vs) opsM rest T)) {N : Nat} {K : XE → Env → List AO → Prop} {A : AO} {res : Int × Int} {x0 x1 : SV}
    (hret : res.1 ≠ 0 → ∀ env G, env.get 6 = errV res.1 res.2 → K .ret env (H ++ A :: G)) (hexit : res = (0, 0) → ∀ env G, env.get 0 = rp j → env.get 1 = x0 → env.get 5 = x1 → K (.exit 0) env (H ++ A :: G)) :
    ∀ (n i : Nat) (G : List AO) (env : Env), i + n = l.length → wantL vs 2 (l.drop i) = res → env.get 0 = rp j → env.get 1 = x0 → env.get 5 = x1 → env.get 22 = exS l → env.get 23 = i64 l.length → env.get 24 = i64 i →
      LI Tryd.prog N drawB l47_0 env (H ++ A :: G) K := by
  intro n
  induction n with
  | zero =>
    intro i G env hi hr h0 hx0 hx1 hs hn hii
    refine li_go hm l47_0.eq_1 ?_
    have e : i = l.length := by omega
    subst e
    rw [List.drop_length] at hr
    simp -implicitDefEqProofs [h0, hx0, hx1, hs, hn, hii]
    refine hexit hr.symm _ _ ?_ ?_ ?_ <;> simp [h0, hx0, hx1]
  | succ n ih =>
    intro i G env hi hr h0 hx0 hx1 hs hn hii
    refine li_go hm l47_0.eq_1 ?_
    have hlt : i < l.length := by omega
    have hlt' : (i : Int) < l.length := by omega
    rw [List.drop_eq_getElem_cons hlt, wantL] at hr
    have hg := exL_get hlt
    have hlen := exL_len l
    have h46 := fun L => ok46 (H := H ++ L) (T := T) (rest := rest) (hh l[i] (List.getElem_mem hlt)) (get_app_l ho L) 2
    generalize l[i] = e at hr hg h46
    simp -implicitDefEqProofs [h0, hx0, hx1, hs, hn, hii, exS, hlt, hlt', hg, hlen, rp]
    refine ⟨by omega, callq_go (fun _ => h46 _) ?_⟩
    generalize wantF vs e 2 = w at hr ⊢
    by_cases hw : w.1 = 0
    · rw [if_neg (by simpa using hw)] at hr
      have hev : errV w.1 w.2 = .val .nilIface := by rw [hw]; rfl
      rw [hev]
      simp -implicitDefEqProofs [h0, hx0, hx1, hs, hn, hii]
      refine ih (i + 1) _ _ (by omega) hr ?_ ?_ ?_ ?_ ?_ ?_
      all_goals simp [h0, hx0, hx1, hs, hn, exS, rp, wrap_suc (show i < 9223372036854775807 by omega)]
    · rw [if_pos hw] at hr
      subst hr
      have hev := errV_of hw w.2
      rw [hev]
      simp -implicitDefEqProofs [h0, hx0, hx1, hs, hn, hii]
      refine hret hw _ _ ?_
      simp [hev]
end
def endF (vs : List (List UInt8)) (pl : Int) (x : StageP) : Int × Int := if (x.pays.length : Int) ≠ pl then (3, x.p) else wantL vs 1 x.pays
section
variable {H : List AO} {r : RulesP} {j : Nat}
theorem ok31 (ho : H[j]? = some (cO r)) {x : StageP} (hl : x.pays.length < 4611686018427387904) (hh : ∀ e ∈ x.pays, e.hgt ≤ 100000) : Ok Tryd.prog 31 [rp j, stageV x] H (.ret (errV (endF (namesOf r) r.pl x).1 (endF (namesOf r) r.pl x).2)) H := by
  have hj := getElem?_lt ho
  have e1 := fun L => oc_app ho rfl rfl L
  simp only [cO, tyO] at e1
  generalize hw : endF (namesOf r) r.pl x = w
  unfold endF at hw
  refine ok_fn hm Tryd.func31 c31 (by simp [rp]) fun hcl => ?_
  by_cases hp : (x.pays.length : Int) = r.pl
  · rw [if_neg (by simpa using hp)] at hw
    have hp' : decide ((x.pays.length : Int) = r.pl) = true := by simpa using hp
    simp -implicitDefEqProofs [i31, r31, rp, e1, stageV, StageP.c, exS, hp']
    refine LI.cong (H' := H ++ ⟨x.c, 74, 0, true⟩ :: []) (by simp [exS, StageP.c]) ?_
    refine loop31_0 (vs := namesOf r) (T := 52) hl hh ho (res := w) (fun h1 env G h4 => ?_) (fun h1 env G h0 => ?_) x.pays.length 0 [] _ (by omega) hw ?_ ?_ ?_ ?_
    · simp -implicitDefEqProofs [h4]
      refine cv_fz 3 hcl rfl ?_
      simp
    · rw [h1]
      simp -implicitDefEqProofs
      refine cv_fz 3 hcl rfl ?_
      simp [errV_0]
    all_goals simp [rp, exS]
  · rw [if_pos hp] at hw
    have hp' : decide ((x.pays.length : Int) = r.pl) = false := by simpa using hp
    subst hw
    simp -implicitDefEqProofs [i31, r31, rp, e1, stageV, StageP.c, exS, hp']
    refine call_go (ok28 (e := 3) (by decide) x.p) ?_
    simp -implicitDefEqProofs
    refine cv_fz 3 hcl rfl ?_
    simp
end
end Go.Proofs.YthmdmnfojbnobaaDoor

/- E12 -/
namespace Go.Proofs.YthmdmnfojbnobaaDoor
open Go.Ab
/-- The first fault of the players that see a deal. -/
def seenF (pl p : Int) : Int → List Int → Int × Int
  | _, [] => (0, 0)
  | q, n :: r => if n < 0 ∨ pl ≤ n then (2, p) else if n ≤ q then (9, p) else seenF pl p n r
def dealF (vs : List (List UInt8)) (pl : Int) (x : StageP) : Int × Int :=
  if x.nm ∉ vs then (7, x.p) else if x.lo < -1000000000 ∨ 1000000000 < x.lo ∨ x.hi < x.lo ∨ x.lo + 60 ≤ x.hi then (2, x.p) else if (wantL vs 1 x.wt).1 ≠ 0 then wantL vs 1 x.wt else seenF pl x.p (-1) x.seen
section
variable {H : List AO} {r : RulesP} {j : Nat}
theorem loop29_1 {x : StageP} (hl : x.seen.length < 4611686018427387904) (ho : H[j]? = some (cO r)) {N : Nat} {K : XE → Env → List AO → Prop} {res : Int × Int}
    (hret : res.1 ≠ 0 → ∀ env G, env.get 4 = errV res.1 res.2 → K .ret env (H ++ G)) (hexit : res = (0, 0) → ∀ env G, K (.exit 2) env (H ++ G)) :
    ∀ (n i : Nat) (q : Int) (G : List AO) (env : Env), i + n = x.seen.length → seenF r.pl x.p q (x.seen.drop i) = res → q = (if i = 0 then -1 else x.seen.getD (i - 1) 0) → env.get 0 = rp j → env.get 3 = rp H.length → env.get 63 = .slc (ints x.seen) x.seen.length → env.get 64 = i64 x.seen.length → env.get 65 = i64 i →
      LI Tryd.prog N drawB l29_1 env (H ++ ⟨x.c, 74, 0, true⟩ :: G) K := by
  have hj := getElem?_lt ho
  have e1 := fun L => oc_app ho rfl rfl L
  simp only [cO, tyO] at e1
  intro n
  induction n with
  | zero =>
    intro i q G env hi hr hq h0 h3 hs hn hii
    refine li_go hm l29_1.eq_1 ?_
    have e : i = x.seen.length := by omega
    subst e
    rw [List.drop_length] at hr
    simp -implicitDefEqProofs [h0, h3, hs, hn, hii]
    exact hexit hr.symm _ _
  | succ n ih =>
    intro i q G env hi hr hq h0 h3 hs hn hii
    refine li_go hm l29_1.eq_1 ?_
    have hlt : i < x.seen.length := by omega
    have hlt' : (i : Int) < x.seen.length := by omega
    rw [List.drop_eq_getElem_cons hlt, seenF] at hr
    obtain ⟨v, hv⟩ : ∃ v, x.seen[i] = v := ⟨_, rfl⟩
    rw [hv] at hr
    by_cases h1 : v < 0
    · rw [if_pos (.inl h1)] at hr
      subst hr
      simp -implicitDefEqProofs [h0, h3, hs, hn, hii, hlt, hlt', hv, h1, rp, e1, StageP.c, exS]
      refine ⟨by omega, call_go (ok28 (e := 2) (by decide) x.p) ?_⟩
      simp -implicitDefEqProofs
      refine hret (show ¬ (2 : Int) = 0 by decide) _ _ ?_
      simp
    by_cases h2 : r.pl ≤ v
    · rw [if_pos (.inr h2)] at hr
      subst hr
      simp -implicitDefEqProofs [h0, h3, hs, hn, hii, hlt, hlt', hv, h1, h2, rp, e1, StageP.c, exS]
      refine ⟨by omega, call_go (ok28 (e := 2) (by decide) x.p) ?_⟩
      simp -implicitDefEqProofs
      refine hret (show ¬ (2 : Int) = 0 by decide) _ _ ?_
      simp
    rw [if_neg (by omega)] at hr
    by_cases hz : i = 0
    · rw [if_pos hz] at hq
      rw [if_neg (by omega)] at hr
      have hp : ¬ (0 : Int) < (i : Int) := by omega
      have hp' : ¬ 0 < i := by omega
      simp -implicitDefEqProofs [h0, h3, hs, hn, hii, hlt, hlt', hv, h1, h2, rp, e1, StageP.c, exS, hp, hp']
      refine ⟨by omega, ?_⟩
      refine LI.cong ?_ (ih (i + 1) v G _ (by omega) hr ?_ ?_ ?_ ?_ ?_ ?_)
      · simp [StageP.c, exS]
      all_goals simp [h0, h3, hs, hn, rp, List.getD, hlt, hv, wrap_suc (show i < 9223372036854775807 by omega)]
    · rw [if_neg hz] at hq
      obtain ⟨k, hik⟩ : ∃ k, i - 1 = k := ⟨_, rfl⟩
      rw [hik] at hq
      have hk : k < x.seen.length := by omega
      have hk' : (k : Int) < x.seen.length := by omega
      obtain ⟨u, hu⟩ : ∃ u, x.seen[k] = u := ⟨_, rfl⟩
      have hqu : q = u := by simpa [List.getD, hk, hu] using hq
      subst hqu
      have w1 : IntKind.i64.wrap ((i : Int) - 1) = (k : Int) := by rw [wrap_id (by omega) (by omega)]; omega
      have hp : (0 : Int) < (i : Int) := by omega
      have hp' : 0 < i := by omega
      by_cases h4 : v ≤ q
      · rw [if_pos h4] at hr
        subst hr
        simp -implicitDefEqProofs [h0, h3, hs, hn, hii, hlt, hlt', hv, h1, h2, rp, e1, StageP.c, exS, hp, hp', w1, hk, hk', hu, h4]
        refine ⟨by omega, by omega, call_go (ok28 (e := 9) (by decide) x.p) ?_⟩
        simp -implicitDefEqProofs
        refine hret (show ¬ (9 : Int) = 0 by decide) _ _ ?_
        simp
      · rw [if_neg h4] at hr
        simp -implicitDefEqProofs [h0, h3, hs, hn, hii, hlt, hlt', hv, h1, h2, rp, e1, StageP.c, exS, hp, hp', w1, hk, hk', hu, h4]
        refine ⟨by omega, by omega, ?_⟩
        refine LI.cong ?_ (ih (i + 1) v G _ (by omega) hr ?_ ?_ ?_ ?_ ?_ ?_)
        · simp [StageP.c, exS]
        all_goals simp [h0, h3, hs, hn, rp, List.getD, hlt, hv, wrap_suc (show i < 9223372036854775807 by omega)]
theorem ok29 (ho : H[j]? = some (cO r)) {x : StageP} (hl : x.wt.length < 4611686018427387904) (hl2 : x.seen.length < 4611686018427387904) (hh : ∀ e ∈ x.wt, e.hgt ≤ 100000) : Ok Tryd.prog 29 [rp j, stageV x] H (.ret (errV (dealF (namesOf r) r.pl x).1 (dealF (namesOf r) r.pl x).2)) H := by
  have hj := getElem?_lt ho
  have e1 := fun L => oc_app ho rfl rfl L
  have h44 := fun L => ok44 (H := H ++ L) (T := 52) (get_app_l ho L) x.nm
  simp only [cO, tyO] at e1
  generalize hw : dealF (namesOf r) r.pl x = w
  unfold dealF at hw
  refine ok_fn hm Tryd.func29 c29 (by simp [rp]) fun hcl => ?_
  simp -implicitDefEqProofs [i29, r29, rp, e1, stageV, StageP.c, exS]
  refine callq_go (fun _ => h44 _) ?_
  by_cases h1 : x.nm ∈ namesOf r
  · rw [if_neg (by simpa using h1)] at hw
    by_cases a1 : x.lo < -1000000000
    · rw [if_pos (.inl a1)] at hw
      subst hw
      simp -implicitDefEqProofs [h1, a1, e1, stageV, StageP.c, exS]
      refine call_go (ok28 (e := 2) (by decide) x.p) ?_
      simp -implicitDefEqProofs
      refine cv_fz 3 hcl rfl ?_
      simp
    by_cases a2 : 1000000000 < x.lo
    · rw [if_pos (.inr (.inl a2))] at hw
      subst hw
      simp -implicitDefEqProofs [h1, a1, a2, e1, stageV, StageP.c, exS]
      refine call_go (ok28 (e := 2) (by decide) x.p) ?_
      simp -implicitDefEqProofs
      refine cv_fz 3 hcl rfl ?_
      simp
    by_cases a3 : x.hi < x.lo
    · rw [if_pos (.inr (.inr (.inl a3)))] at hw
      subst hw
      simp -implicitDefEqProofs [h1, a1, a2, a3, e1, stageV, StageP.c, exS]
      refine call_go (ok28 (e := 2) (by decide) x.p) ?_
      simp -implicitDefEqProofs
      refine cv_fz 3 hcl rfl ?_
      simp
    have w6 : IntKind.i64.wrap (x.lo + 60) = x.lo + 60 := wrap_id (by omega) (by omega)
    by_cases a4 : x.lo + 60 ≤ x.hi
    · rw [if_pos (.inr (.inr (.inr a4)))] at hw
      subst hw
      simp -implicitDefEqProofs [h1, a1, a2, a3, w6, a4, e1, stageV, StageP.c, exS]
      refine call_go (ok28 (e := 2) (by decide) x.p) ?_
      simp -implicitDefEqProofs
      refine cv_fz 3 hcl rfl ?_
      simp
    rw [if_neg (by omega)] at hw
    simp -implicitDefEqProofs [h1, a1, a2, a3, w6, a4, e1, stageV, StageP.c, exS]
    refine LI.cong (H' := H ++ ⟨x.c, 74, 0, true⟩ :: []) (by simp [exS, StageP.c]) ?_
    refine loop29_0 (vs := namesOf r) (T := 52) (x0 := rp H.length) hl hh ho (res := wantL (namesOf r) 1 x.wt) (fun h1 env G h4 => ?_) (fun h1 env G h0 h3 => ?_) x.wt.length 0 [] _ (by omega) rfl ?_ ?_ ?_ ?_ ?_
    · rw [if_pos h1] at hw
      subst hw
      simp -implicitDefEqProofs [h4]
      refine cv_fz 3 hcl rfl ?_
      simp
    · rw [h1, if_neg (by simp)] at hw
      simp -implicitDefEqProofs [h0, h3, rp, StageP.c]
      refine LI.cong (H' := H ++ ⟨x.c, 74, 0, true⟩ :: G) (by simp [exS, StageP.c]) ?_
      refine loop29_1 hl2 ho (res := w) (fun h1 env G h4 => ?_) (fun h1 env G => ?_) x.seen.length 0 (-1) G _ (by omega) hw rfl ?_ ?_ ?_ ?_ ?_
      · simp -implicitDefEqProofs [h4]
        refine cv_fz 3 hcl rfl ?_
        simp
      · rw [h1]
        simp -implicitDefEqProofs
        refine cv_fz 3 hcl rfl ?_
        simp [errV_0]
      all_goals simp [h0, h3, rp]
    all_goals simp [rp, exS]
  · rw [if_pos h1] at hw
    subst hw
    simp -implicitDefEqProofs [h1, stageV, StageP.c, exS]
    refine call_go (ok28 (e := 7) (by decide) x.p) ?_
    simp -implicitDefEqProofs
    refine cv_fz 3 hcl rfl ?_
    simp
end
end Go.Proofs.YthmdmnfojbnobaaDoor

/- E13 -/
namespace Go.Proofs.YthmdmnfojbnobaaDoor
open Go.Ab
/-- The first fault of settings. -/
def setF (vs : List (List UInt8)) : List SetP → Int × Int
  | [] => (0, 0)
  | s :: r => if s.nm ∉ vs then (7, s.p) else if (wantF vs s.e 1).1 ≠ 0 then wantF vs s.e 1 else setF vs r
def goF (stgs : List StageP) (i : Int) (a : ActP) : Int × Int :=
  if a.go = [] then (0, 0) else if findF stgs a.go < 0 then (7, a.p) else if findF stgs a.go ≤ i then (9, a.p) else (0, 0)
def actF (vs : List (List UInt8)) (stgs : List StageP) (i : Int) (a : ActP) : Int × Int :=
  if 1 < a.wh.length then (3, a.p) else if (wantL vs 2 a.wh).1 ≠ 0 then wantL vs 2 a.wh else if (setF vs a.sets).1 ≠ 0 then setF vs a.sets else goF stgs i a
theorem SetP.c_len7 (s : SetP) : s.c.length = 7 := by simp [SetP.c]
section
variable {H : List AO} {vs : List (List UInt8)} {rest : List SV} {r : RulesP} {j : Nat} {T : TypeId}
theorem loop47_1 {l : List SetP} (hl : l.length < 1099511627776) (hh : ∀ s ∈ l, s.e.hgt ≤ 100000) (ho : H[j]? = some (tyO (varsM vs) opsM rest T)) {N : Nat} {K : XE → Env → List AO → Prop} {A : AO} {res : Int × Int} {x0 x1 : SV}
    (hret : res.1 ≠ 0 → ∀ env G, env.get 6 = errV res.1 res.2 → K .ret env (H ++ A :: G)) (hexit : res = (0, 0) → ∀ env G, env.get 0 = rp j → env.get 1 = x0 → env.get 5 = x1 → K (.exit 2) env (H ++ A :: G)) :
    ∀ (n i : Nat) (G : List AO) (env : Env), i + n = l.length → setF vs (l.drop i) = res → env.get 0 = rp j → env.get 1 = x0 → env.get 5 = x1 → env.get 38 = .slc (rws SetP.c l) l.length → env.get 39 = i64 l.length → env.get 40 = i64 i →
      LI Tryd.prog N drawB l47_1 env (H ++ A :: G) K := by
  intro n
  induction n with
  | zero =>
    intro i G env hi hr h0 hx0 hx1 hs hn hii
    refine li_go hm l47_1.eq_1 ?_
    have e : i = l.length := by omega
    subst e
    rw [List.drop_length] at hr
    simp -implicitDefEqProofs [h0, hx0, hx1, hs, hn, hii]
    refine hexit hr.symm _ _ ?_ ?_ ?_ <;> simp [h0, hx0, hx1]
  | succ n ih =>
    intro i G env hi hr h0 hx0 hx1 hs hn hii
    refine li_go hm l47_1.eq_1 ?_
    have hlt : i < l.length := by omega
    have hlt' : (i : Int) < l.length := by omega
    rw [List.drop_eq_getElem_cons hlt, setF] at hr
    have hg := rws_c SetP.c_len7 hlt
    have hlen := rws_len SetP.c_len7 l
    have h46 := fun L => ok46 (H := H ++ L) (T := T) (rest := rest) (hh l[i] (List.getElem_mem hlt)) (get_app_l ho L) 1
    have h44 := fun L => ok44 (H := H ++ L) (T := T) (rest := rest) (get_app_l ho L) l[i].nm
    generalize l[i] = s at hr hg h46 h44
    obtain ⟨nm, ⟨op, m, en, el, ep⟩, p⟩ := s
    simp only [SetP.c, Ex.c, List.cons_append, List.nil_append] at hg
    simp only [Ex.v, Ex.c] at h46
    simp -implicitDefEqProofs [h0, hx0, hx1, hs, hn, hii, hlt, hlt', hg, hlen, rp]
    simp only at hr h44
    refine ⟨by omega, callq_go (fun _ => h44 _) ?_⟩
    by_cases h1 : nm ∈ vs
    · rw [if_neg (by simpa using h1)] at hr
      generalize wantF vs (.mk op m en el ep) 1 = w at hr h46
      simp -implicitDefEqProofs [h0, hx0, hx1, hs, hn, hii, h1, rp]
      refine callq_go (fun _ => h46 _) ?_
      by_cases hw : w.1 = 0
      · rw [if_neg (by simpa using hw)] at hr
        have hev : errV w.1 w.2 = .val .nilIface := by rw [hw]; rfl
        rw [hev]
        simp -implicitDefEqProofs [h0, hx0, hx1, hs, hn, hii]
        refine ih (i + 1) _ _ (by omega) hr ?_ ?_ ?_ ?_ ?_ ?_
        all_goals simp [h0, hx0, hx1, hs, hn, rp, wrap_suc (show i < 9223372036854775807 by omega)]
      · rw [if_pos hw] at hr
        subst hr
        have hev := errV_of hw w.2
        rw [hev]
        simp -implicitDefEqProofs [h0, hx0, hx1, hs, hn, hii]
        refine hret hw _ _ ?_
        simp [hev]
    · rw [if_pos h1] at hr
      subst hr
      simp -implicitDefEqProofs [h0, hx0, hx1, hs, hn, hii, h1, rp]
      refine call_go (ok28 (e := 7) (by decide) p) ?_
      simp -implicitDefEqProofs
      refine hret (show ¬ (7 : Int) = 0 by decide) _ _ ?_
      simp
theorem ok47 (ho : H[j]? = some (cO r)) (hl : r.stages.length < 4611686018427387904) {a : ActP} (hs2 : a.sets.length < 1099511627776) (hw2 : ∀ e ∈ a.wh, e.hgt ≤ 100000) (hh : ∀ s ∈ a.sets, s.e.hgt ≤ 100000) {i : Nat} (hi : i < 4611686018427387904) :
    Ok Tryd.prog 47 [rp j, i64 i, actV a] H (.ret (errV (actF (namesOf r) r.stages i a).1 (actF (namesOf r) r.stages i a).2)) H := by
  have hj := getElem?_lt ho
  have e1 := fun L => oc_app ho rfl rfl L
  simp only [cO, tyO] at e1
  generalize hw : actF (namesOf r) r.stages i a = w
  unfold actF at hw
  refine ok_fn hm Tryd.func47 c47 (by simp [rp]) fun hcl => ?_
  by_cases h1 : 1 < a.wh.length
  · rw [if_pos h1] at hw
    subst hw
    have h1' : (1 : Int) < a.wh.length := by omega
    simp -implicitDefEqProofs [i47, r47, rp, e1, actV, ActP.c, exS, h1, h1']
    refine call_go (ok28 (e := 3) (by decide) a.p) ?_
    simp -implicitDefEqProofs
    refine cv_fz 4 hcl rfl ?_
    simp
  rw [if_neg h1] at hw
  have h1' : ¬ (1 : Int) < a.wh.length := by omega
  simp -implicitDefEqProofs [i47, r47, rp, e1, actV, ActP.c, exS, h1, h1']
  refine LI.cong (H' := H ++ ⟨a.c, 102, 0, true⟩ :: []) (by simp [exS, ActP.c]) ?_
  refine loop47_0 (vs := namesOf r) (T := 52) (x0 := i64 i) (x1 := rp H.length) (by omega) hw2 ho (res := wantL (namesOf r) 2 a.wh) (fun h1 env G h4 => ?_) (fun h1 env G h0 hx0 hx1 => ?_) a.wh.length 0 [] _ (by omega) rfl ?_ ?_ ?_ ?_ ?_ ?_
  · rw [if_pos h1] at hw
    subst hw
    simp -implicitDefEqProofs [h4]
    refine cv_fz 4 hcl rfl ?_
    simp
  · rw [h1, if_neg (by simp)] at hw
    simp -implicitDefEqProofs [h0, hx0, hx1, rp, ActP.c]
    refine LI.cong (H' := H ++ ⟨a.c, 102, 0, true⟩ :: G) (by simp [exS, ActP.c]) ?_
    refine loop47_1 (vs := namesOf r) (T := 52) (x0 := i64 i) (x1 := rp H.length) hs2 hh ho (res := setF (namesOf r) a.sets) (fun h1 env G h4 => ?_) (fun h1 env G h0 hx0 hx1 => ?_) a.sets.length 0 G _ (by omega) rfl ?_ ?_ ?_ ?_ ?_ ?_
    · rw [if_pos h1] at hw
      subst hw
      simp -implicitDefEqProofs [h4]
      refine cv_fz 4 hcl rfl ?_
      simp
    · rw [h1, if_neg (by simp)] at hw
      unfold goF at hw
      by_cases h2 : a.go = []
      · rw [if_pos h2] at hw
        subst hw
        simp -implicitDefEqProofs [h0, hx0, hx1, rp, ActP.c, h2]
        refine cv_fz 4 hcl rfl ?_
        simp [errV_0]
      · rw [if_neg h2] at hw
        simp -implicitDefEqProofs [h0, hx0, hx1, rp, ActP.c, h2, e1]
        refine call_of (ok15 hl a.go) ?_
        generalize findF r.stages a.go = t at hw ⊢
        by_cases h3 : t < 0
        · rw [if_pos h3] at hw
          subst hw
          simp -implicitDefEqProofs [h0, hx0, hx1, rp, h3]
          refine call_go (ok28 (e := 7) (by decide) a.p) ?_
          simp -implicitDefEqProofs
          refine cv_fz 4 hcl rfl ?_
          simp
        rw [if_neg h3] at hw
        by_cases h4 : t ≤ (i : Int)
        · rw [if_pos h4] at hw
          subst hw
          simp -implicitDefEqProofs [h0, hx0, hx1, rp, h3, h4]
          refine call_go (ok28 (e := 9) (by decide) a.p) ?_
          simp -implicitDefEqProofs
          refine cv_fz 4 hcl rfl ?_
          simp
        · rw [if_neg h4] at hw
          subst hw
          simp -implicitDefEqProofs [h0, hx0, hx1, rp, h3, h4]
          refine cv_fz 4 hcl rfl ?_
          simp [errV_0]
    all_goals simp [h0, hx0, hx1, rp]
  all_goals simp [rp, exS]
end
end Go.Proofs.YthmdmnfojbnobaaDoor

/- E14 -/
namespace Go.Proofs.YthmdmnfojbnobaaDoor
open Go.Ab
/-- The first fault of the actions of a turn. -/
def actsF (vs : List (List UInt8)) (stgs : List StageP) (i : Int) : List (List UInt8) → List ActP → Int × Int
  | _, [] => (0, 0)
  | l, a :: r => if a.nm ∈ l then (8, a.p) else if (actF vs stgs i a).1 ≠ 0 then actF vs stgs i a else actsF vs stgs i (addS l a.nm) r
def turnF (vs : List (List UInt8)) (stgs : List StageP) (i : Int) (x : StageP) : Int × Int := match x.who with
  | [] => (0, 0)
  | e :: _ => if (wantF vs e 1).1 ≠ 0 then wantF vs e 1 else if x.acts.length < 1 ∨ 10 < x.acts.length then (3, x.p) else actsF vs stgs i [] x.acts
/-- What an action has to be for the model to hold it. -/
structure ActP.Ok (a : ActP) : Prop where
  sets : a.sets.length < 1099511627776
  wh : ∀ e ∈ a.wh, e.hgt ≤ 100000
  e : ∀ s ∈ a.sets, s.e.hgt ≤ 100000
section
variable {H : List AO} {r : RulesP} {j : Nat}
theorem loop30 {l : List ActP} (hl : l.length ≤ 10) (hh : ∀ a ∈ l, a.Ok) (ho : H[j]? = some (cO r)) (hstg : r.stages.length < 4611686018427387904) {st : Nat} (hst : st < 4611686018427387904) {N : Nat} {K : XE → Env → List AO → Prop} {A : AO} {res : Int × Int}
    (hret : res.1 ≠ 0 → ∀ env G, env.get 6 = errV res.1 res.2 → K .ret env (H ++ A :: G)) (hexit : res = (0, 0) → ∀ env G, K (.exit 0) env (H ++ A :: G)) :
    ∀ (n i : Nat) (m : List (List UInt8)) (G : List AO) (env : Env), i + n = l.length → actsF (namesOf r) r.stages st m (l.drop i) = res → env.get 0 = rp j → env.get 1 = i64 st → env.get 8 = .mp (H.length + 1) 0 → env.get 38 = .slc (rws ActP.c l) l.length → env.get 39 = i64 l.length → env.get 40 = i64 i →
      LI Tryd.prog N drawB l30_0 env (H ++ A :: vmO m :: G) K := by
  intro n
  induction n with
  | zero =>
    intro i m G env hi hr h0 h1 h8 hs hn hii
    refine li_go hm l30_0.eq_1 ?_
    have e : i = l.length := by omega
    subst e
    rw [List.drop_length] at hr
    simp -implicitDefEqProofs [h0, h1, h8, hs, hn, hii]
    exact hexit hr.symm _ _
  | succ n ih =>
    intro i m G env hi hr h0 h1 h8 hs hn hii
    refine li_go hm l30_0.eq_1 ?_
    have hlt : i < l.length := by omega
    have hlt' : (i : Int) < l.length := by omega
    rw [List.drop_eq_getElem_cons hlt, actsF] at hr
    have hg := rws_c ActP.c_len hlt
    have hlen := rws_len ActP.c_len l
    have hok := hh l[i] (List.getElem_mem hlt)
    have h47 := fun L => ok47 (H := H ++ L) (get_app_l ho L) hstg (a := l[i]) hok.sets hok.wh hok.e hst
    generalize l[i] = a at hr hg h47 hok
    have mo : ∀ G, SV.mapOf (H ++ A :: vmO m :: G) (.mp (H.length + 1) 0) = some (sks m, trues m.length) := fun G => by
      have : (H ++ A :: vmO m :: G)[H.length + 1]? = some (vmO m) := by simp
      simp only [SV.mapOf, this]; simp [vmO]
    have hal' : ∀ v ∈ sks m, KK.s.is v = true := fun v hv => List.all_eq_true.1 (sks_all m) v hv
    have hlk := lkm_s a.nm m
    simp only [ActP.c, exS] at hg
    simp only [actV, ActP.c, exS] at h47
    by_cases hv : a.nm ∈ m
    · rw [if_pos hv] at hr hlk
      subst hr
      simp -implicitDefEqProofs [h0, h1, h8, hs, hn, hii, hlt, hlt', hg, hlen, mo, hlk, exS]
      refine ⟨by omega, hal', call_go (ok28 (e := 8) (by decide) a.p) ?_⟩
      simp -implicitDefEqProofs
      refine hret (show ¬ (8 : Int) = 0 by decide) _ _ ?_
      simp
    · rw [if_neg hv] at hr hlk
      have e1 := setK_s a.nm m
      have e2 := setV_s a.nm m
      generalize actF (namesOf r) r.stages st a = w at hr h47
      simp -implicitDefEqProofs [h0, h1, h8, hs, hn, hii, hlt, hlt', hg, hlen, mo, hlk, exS]
      refine ⟨by omega, hal', s_mup_go (x := (sks m, trues m.length)) (mo _) rfl rfl (sks_all m) ?_⟩
      simp -implicitDefEqProofs [h0, h1, h8, hs, hn, hii, vmO, e1, e2, rp]
      refine call_go (h47 _) ?_
      by_cases hw : w.1 = 0
      · rw [if_neg (by simpa using hw)] at hr
        have hev : errV w.1 w.2 = .val .nilIface := by rw [hw]; rfl
        rw [hev]
        simp -implicitDefEqProofs [h0, h1, h8, hs, hn, hii]
        refine LI.cong ?_ (ih (i + 1) (addS m a.nm) (G ++ [⟨a.c, 102, 0, true⟩]) _ (by omega) hr ?_ ?_ ?_ ?_ ?_ ?_)
        · simp [vmO, ActP.c, exS]
        all_goals simp [h0, h1, h8, hs, hn, rp, wrap_suc (show i < 9223372036854775807 by omega)]
      · rw [if_pos hw] at hr
        subst hr
        have hev := errV_of hw w.2
        rw [hev]
        simp -implicitDefEqProofs [h0, h1, h8, hs, hn, hii]
        refine hret hw _ _ ?_
        simp [hev]
theorem ok30 (ho : H[j]? = some (cO r)) (hl : r.stages.length < 4611686018427387904) {x : StageP} (hx : x.acts.length < 4611686018427387904) {e0 : Ex} {wr : List Ex} (hwho : x.who = e0 :: wr) (he0 : e0.hgt ≤ 100000) (hh : ∀ a ∈ x.acts, a.Ok) {i : Nat} (hi : i < 4611686018427387904) :
    Ok Tryd.prog 30 [rp j, i64 i, stageV x] H (.ret (errV (turnF (namesOf r) r.stages i x).1 (turnF (namesOf r) r.stages i x).2)) H := by
  have hj := getElem?_lt ho
  have e1 := fun L => oc_app ho rfl rfl L
  simp only [cO, tyO] at e1
  have h46 := fun L => ok46 (H := H ++ L) (T := 52) (vs := namesOf r) he0 (get_app_l ho L) 1
  generalize hw : turnF (namesOf r) r.stages i x = w
  unfold turnF at hw
  rw [hwho] at hw
  simp only at hw
  refine ok_fn hm Tryd.func30 c30 (by simp [rp]) fun hcl => ?_
  generalize hq : wantF (namesOf r) e0 1 = q at hw h46
  obtain ⟨op, m, en, el, ep⟩ := e0
  simp only [Ex.v, Ex.c] at h46
  simp -implicitDefEqProofs [i30, r30, rp, e1, stageV, StageP.c, exS, hwho, Ex.cL, Ex.c]
  refine callq_go (fun _ => h46 _) ?_
  by_cases hw1 : q.1 = 0
  · rw [if_neg (by simpa using hw1)] at hw
    have hev : errV q.1 q.2 = .val .nilIface := by rw [hw1]; rfl
    rw [hev]
    by_cases a1 : x.acts.length < 1
    · rw [if_pos (.inl a1)] at hw
      subst hw
      have a1' : (x.acts.length : Int) < 1 := by omega
      simp -implicitDefEqProofs [rp, a1, a1']
      refine call_go (ok28 (e := 3) (by decide) x.p) ?_
      simp -implicitDefEqProofs
      refine cv_fz 3 hcl rfl ?_
      simp
    by_cases a2 : 10 < x.acts.length
    · rw [if_pos (.inr a2)] at hw
      subst hw
      have a1' : ¬ (x.acts.length : Int) < 1 := by omega
      have a2' : (10 : Int) < x.acts.length := by omega
      simp -implicitDefEqProofs [rp, a1, a1', a2, a2']
      refine call_go (ok28 (e := 3) (by decide) x.p) ?_
      simp -implicitDefEqProofs
      refine cv_fz 3 hcl rfl ?_
      simp
    rw [if_neg (by omega)] at hw
    have a1' : decide ((x.acts.length : Int) < 1) = false := by simp; omega
    have a2' : decide ((10 : Int) < x.acts.length) = false := by simp; omega
    simp -implicitDefEqProofs [rp, a1', a2']
    refine LI.cong (H' := H ++ ⟨x.c, 74, 0, true⟩ :: vmO [] :: []) (by simp [exS, StageP.c, vmO, hwho, Ex.cL, Ex.c, sks, trues]) ?_
    refine loop30 (by omega) hh ho hl hi (res := w) (fun h1 env G h4 => ?_) (fun h1 env G => ?_) x.acts.length 0 [] [] _ (by omega) hw ?_ ?_ ?_ ?_ ?_ ?_
    · simp -implicitDefEqProofs [h4]
      refine cv_fz 4 hcl rfl ?_
      simp
    · rw [h1]
      simp -implicitDefEqProofs
      refine cv_fz 4 hcl rfl ?_
      simp [errV_0]
    all_goals simp [rp]
  · rw [if_pos hw1] at hw
    subst hw
    have hev := errV_of hw1 q.2
    rw [hev]
    simp -implicitDefEqProofs
    refine cv_fz 3 hcl rfl ?_
    rw [← hev]; simp
end
end Go.Proofs.YthmdmnfojbnobaaDoor

/- E15 -/
namespace Go.Proofs.YthmdmnfojbnobaaDoor
open Go.Ab
def stageF (vs : List (List UInt8)) (pl : Int) (stgs : List StageP) (i : Int) (x : StageP) : Int × Int :=
  if 1 < x.wt.length ∨ (x.k = 2 ∧ x.who.length ≠ 1) then (3, x.p) else if x.k = 1 then dealF vs pl x else if x.k = 2 then turnF vs stgs i x else if x.k = 3 then endF vs pl x else (3, x.p)
/-- The first fault of stages. -/
def stagesF (vs : List (List UInt8)) (pl : Int) (stgs : List StageP) : Nat → List StageP → Int × Int
  | _, [] => (0, 0)
  | i, x :: r => if (stageF vs pl stgs (i : Int) x).1 ≠ 0 then stageF vs pl stgs (i : Int) x else stagesF vs pl stgs (i + 1) r
/-- What a stage has to be for the model to hold it. -/
structure StageP.Ok (x : StageP) : Prop where
  wt : ∀ e ∈ x.wt, e.hgt ≤ 100000
  seen : x.seen.length < 4611686018427387904
  who : ∀ e ∈ x.who, e.hgt ≤ 100000
  acts : x.acts.length < 4611686018427387904
  act : ∀ a ∈ x.acts, a.Ok
  lp : x.pays.length < 4611686018427387904
  pays : ∀ e ∈ x.pays, e.hgt ≤ 100000
section
variable {H : List AO} {r : RulesP} {j : Nat}
theorem loop21 (hl : r.stages.length < 4611686018427387904) (hh : ∀ x ∈ r.stages, x.Ok) (ho : H[j]? = some (cO r)) {N : Nat} {K : XE → Env → List AO → Prop} {res : Int × Int}
    (hret : res.1 ≠ 0 → ∀ env G, env.get 2 = errV res.1 res.2 → K .ret env (H ++ G)) (hexit : res = (0, 0) → ∀ env G, K (.exit 0) env (H ++ G)) :
    ∀ (n i : Nat) (G : List AO) (env : Env), i + n = r.stages.length → stagesF (namesOf r) r.pl r.stages i (r.stages.drop i) = res → env.get 0 = rp j → env.get 10 = stgsV r.stages → env.get 11 = i64 r.stages.length → env.get 12 = i64 i →
      LI Tryd.prog N drawB l21_0 env (H ++ G) K := by
  intro n
  induction n with
  | zero =>
    intro i G env hi hr h0 hs hn hii
    refine li_go hm l21_0.eq_1 ?_
    have e : i = r.stages.length := by omega
    subst e
    rw [List.drop_length] at hr
    simp -implicitDefEqProofs [h0, hs, hn, hii]
    exact hexit hr.symm _ _
  | succ n ih =>
    intro i G env hi hr h0 hs hn hii
    refine li_go hm l21_0.eq_1 ?_
    have hlt : i < r.stages.length := by omega
    have hlt' : (i : Int) < r.stages.length := by omega
    rw [List.drop_eq_getElem_cons hlt, stagesF] at hr
    have hg := rws_c StageP.c_len hlt
    have hlen := rws_len StageP.c_len r.stages
    have hok := hh r.stages[i] (List.getElem_mem hlt)
    generalize r.stages[i] = x at hr hg hok
    have hob := fun L => get_app_l ho L
    simp only [StageP.c, exS] at hg
    have hsv : stageV x = .agg [i64 x.k, st (B x.lb), st (B x.nm), i64 x.lo, i64 x.hi, .slc (Ex.cL x.wt) x.wt.length, bl x.all, .slc (ints x.seen) x.seen.length, .slc (Ex.cL x.who) x.who.length, .slc (rws ActP.c x.acts) x.acts.length, .slc (Ex.cL x.pays) x.pays.length, i64 x.p] := rfl
    generalize hw : stageF (namesOf r) r.pl r.stages i x = w at hr
    unfold stageF at hw
    have h28 : ∀ L, (3, x.p) = w → Ok Tryd.prog 28 [i64 3, i64 x.p] L (.ret (errV w.1 w.2)) L := fun L h => by subst h; exact ok28 (e := 3) (by decide) x.p
    by_cases w1 : 1 < x.wt.length
    · rw [if_pos (.inl w1)] at hw
      have w1' : decide ((1 : Int) < x.wt.length) = true := by simp; omega
      simp -implicitDefEqProofs [h0, hs, hn, hii, stgsV, hlt, hlt', hg, hlen, rp, w1']
      refine ⟨by omega, call_go (out := .ret (errV w.1 w.2)) (h28 _ hw) ?_⟩
      by_cases hw1 : w.1 = 0
      · rw [if_neg (by simpa using hw1)] at hr
        have hev : errV w.1 w.2 = .val .nilIface := by rw [hw1]; rfl
        rw [hev]
        simp -implicitDefEqProofs [h0, hs, hn, hii]
        refine LI.cong ?_ (ih (i + 1) (G ++ [⟨x.c, 74, 0, true⟩]) _ (by omega) hr ?_ ?_ ?_ ?_)
        · simp [StageP.c, exS]
        all_goals simp [h0, hs, hn, rp, stgsV, wrap_suc (show i < 9223372036854775807 by omega)]
      · rw [if_pos hw1] at hr
        subst hr
        have hev := errV_of hw1 w.2
        rw [hev]
        simp -implicitDefEqProofs [h0, hs, hn, hii]
        refine hret hw1 _ _ ?_
        simp [hev]
    have w1' : decide ((1 : Int) < x.wt.length) = false := by simp; omega
    by_cases w2 : x.k = 2
    · by_cases w3 : x.who.length = 1
      · rw [if_neg (by omega), if_neg (by omega), if_pos w2] at hw
        obtain ⟨e0, hwho⟩ := List.length_eq_one_iff.1 w3
        have w3' : decide ((x.who.length : Int) = 1) = true := by simp; omega
        have k1 : decide (x.k = 1) = false := by simp; omega
        have k2 : decide (x.k = 2) = true := by simp; omega
        simp -implicitDefEqProofs [h0, hs, hn, hii, stgsV, hlt, hlt', hg, hlen, rp, w1', k1, k2, w3']
        refine ⟨by omega, call_go (out := .ret (errV w.1 w.2)) (hw ▸ hsv ▸ ok30 (hob _) hl hok.acts hwho (hok.who e0 (by simp [hwho])) hok.act (by omega)) ?_⟩
        by_cases hw1 : w.1 = 0
        · rw [if_neg (by simpa using hw1)] at hr
          have hev : errV w.1 w.2 = .val .nilIface := by rw [hw1]; rfl
          rw [hev]
          simp -implicitDefEqProofs [h0, hs, hn, hii]
          refine LI.cong ?_ (ih (i + 1) (G ++ [⟨x.c, 74, 0, true⟩]) _ (by omega) hr ?_ ?_ ?_ ?_)
          · simp [StageP.c, exS]
          all_goals simp [h0, hs, hn, rp, stgsV, wrap_suc (show i < 9223372036854775807 by omega)]
        · rw [if_pos hw1] at hr
          subst hr
          have hev := errV_of hw1 w.2
          rw [hev]
          simp -implicitDefEqProofs [h0, hs, hn, hii]
          refine hret hw1 _ _ ?_
          simp [hev]
      · rw [if_pos (.inr ⟨w2, w3⟩)] at hw
        have w3' : decide ((x.who.length : Int) = 1) = false := by simp; omega
        have k1 : decide (x.k = 1) = false := by simp; omega
        have k2 : decide (x.k = 2) = true := by simp; omega
        simp -implicitDefEqProofs [h0, hs, hn, hii, stgsV, hlt, hlt', hg, hlen, rp, w1', k1, k2, w3']
        refine ⟨by omega, call_go (out := .ret (errV w.1 w.2)) (h28 _ hw) ?_⟩
        by_cases hw1 : w.1 = 0
        · rw [if_neg (by simpa using hw1)] at hr
          have hev : errV w.1 w.2 = .val .nilIface := by rw [hw1]; rfl
          rw [hev]
          simp -implicitDefEqProofs [h0, hs, hn, hii]
          refine LI.cong ?_ (ih (i + 1) (G ++ [⟨x.c, 74, 0, true⟩]) _ (by omega) hr ?_ ?_ ?_ ?_)
          · simp [StageP.c, exS]
          all_goals simp [h0, hs, hn, rp, stgsV, wrap_suc (show i < 9223372036854775807 by omega)]
        · rw [if_pos hw1] at hr
          subst hr
          have hev := errV_of hw1 w.2
          rw [hev]
          simp -implicitDefEqProofs [h0, hs, hn, hii]
          refine hret hw1 _ _ ?_
          simp [hev]
    rw [if_neg (by omega)] at hw
    by_cases w3 : x.k = 1
    · rw [if_pos w3] at hw
      have k1 : decide (x.k = 1) = true := by simp; omega
      have k2 : decide (x.k = 2) = false := by simp; omega
      simp -implicitDefEqProofs [h0, hs, hn, hii, stgsV, hlt, hlt', hg, hlen, rp, w1', k1, k2]
      refine ⟨by omega, call_go (out := .ret (errV w.1 w.2)) (hw ▸ hsv ▸ ok29 (hob _) (by omega) hok.seen hok.wt) ?_⟩
      by_cases hw1 : w.1 = 0
      · rw [if_neg (by simpa using hw1)] at hr
        have hev : errV w.1 w.2 = .val .nilIface := by rw [hw1]; rfl
        rw [hev]
        simp -implicitDefEqProofs [h0, hs, hn, hii]
        refine LI.cong ?_ (ih (i + 1) (G ++ [⟨x.c, 74, 0, true⟩]) _ (by omega) hr ?_ ?_ ?_ ?_)
        · simp [StageP.c, exS]
        all_goals simp [h0, hs, hn, rp, stgsV, wrap_suc (show i < 9223372036854775807 by omega)]
      · rw [if_pos hw1] at hr
        subst hr
        have hev := errV_of hw1 w.2
        rw [hev]
        simp -implicitDefEqProofs [h0, hs, hn, hii]
        refine hret hw1 _ _ ?_
        simp [hev]
    rw [if_neg w3, if_neg w2] at hw
    by_cases w4 : x.k = 3
    · rw [if_pos w4] at hw
      have k1 : decide (x.k = 1) = false := by simp; omega
      have k2 : decide (x.k = 2) = false := by simp; omega
      have k3 : decide (x.k = 3) = true := by simp; omega
      simp -implicitDefEqProofs [h0, hs, hn, hii, stgsV, hlt, hlt', hg, hlen, rp, w1', k1, k2, k3]
      refine ⟨by omega, call_go (out := .ret (errV w.1 w.2)) (hw ▸ hsv ▸ ok31 (hob _) hok.lp hok.pays) ?_⟩
      by_cases hw1 : w.1 = 0
      · rw [if_neg (by simpa using hw1)] at hr
        have hev : errV w.1 w.2 = .val .nilIface := by rw [hw1]; rfl
        rw [hev]
        simp -implicitDefEqProofs [h0, hs, hn, hii]
        refine LI.cong ?_ (ih (i + 1) (G ++ [⟨x.c, 74, 0, true⟩]) _ (by omega) hr ?_ ?_ ?_ ?_)
        · simp [StageP.c, exS]
        all_goals simp [h0, hs, hn, rp, stgsV, wrap_suc (show i < 9223372036854775807 by omega)]
      · rw [if_pos hw1] at hr
        subst hr
        have hev := errV_of hw1 w.2
        rw [hev]
        simp -implicitDefEqProofs [h0, hs, hn, hii]
        refine hret hw1 _ _ ?_
        simp [hev]
    · rw [if_neg w4] at hw
      have k1 : decide (x.k = 1) = false := by simp; omega
      have k2 : decide (x.k = 2) = false := by simp; omega
      have k3 : decide (x.k = 3) = false := by simp; omega
      simp -implicitDefEqProofs [h0, hs, hn, hii, stgsV, hlt, hlt', hg, hlen, rp, w1', k1, k2, k3]
      refine ⟨by omega, call_go (out := .ret (errV w.1 w.2)) (h28 _ hw) ?_⟩
      by_cases hw1 : w.1 = 0
      · rw [if_neg (by simpa using hw1)] at hr
        have hev : errV w.1 w.2 = .val .nilIface := by rw [hw1]; rfl
        rw [hev]
        simp -implicitDefEqProofs [h0, hs, hn, hii]
        refine LI.cong ?_ (ih (i + 1) (G ++ [⟨x.c, 74, 0, true⟩]) _ (by omega) hr ?_ ?_ ?_ ?_)
        · simp [StageP.c, exS]
        all_goals simp [h0, hs, hn, rp, stgsV, wrap_suc (show i < 9223372036854775807 by omega)]
      · rw [if_pos hw1] at hr
        subst hr
        have hev := errV_of hw1 w.2
        rw [hev]
        simp -implicitDefEqProofs [h0, hs, hn, hii]
        refine hret hw1 _ _ ?_
        simp [hev]
end
end Go.Proofs.YthmdmnfojbnobaaDoor

/- E16 -/
namespace Go.Proofs.YthmdmnfojbnobaaDoor
open Go.Ab
def firstF : List (Int × Int) → Int × Int
  | [] => (0, 0)
  | w :: r => if w.1 ≠ 0 then w else firstF r
/-- The first fault of rules. -/
def checkF (r : RulesP) : Int × Int := firstF [plF r, varF [] r.vars, labF [] r.stages, lastF r.stages, stagesF (namesOf r) r.pl r.stages 0 r.stages]
section
variable {H : List AO} {r : RulesP} {j : Nat}
theorem ok21 (ho : H[j]? = some (cO r)) (hl : r.stages.length < 4611686018427387904) (hh : ∀ x ∈ r.stages, x.Ok) : Ok Tryd.prog 21 [rp j] H (.ret (errV (stagesF (namesOf r) r.pl r.stages 0 r.stages).1 (stagesF (namesOf r) r.pl r.stages 0 r.stages).2)) H := by
  have hj := getElem?_lt ho
  have e1 := fun L => oc_app ho rfl rfl L
  have e0 : objCells H j 0 = (cO r).cells := objCells_of ho rfl
  simp only [cO, tyO, stgsV] at e1 e0
  generalize hw : stagesF (namesOf r) r.pl r.stages 0 r.stages = w
  refine ok_fn hm Tryd.func21 c21 (by simp [rp]) fun hcl => ?_
  simp -implicitDefEqProofs [i21, r21, rp, e0, e1]
  refine LI.cong (H' := H ++ []) (by simp) ?_
  refine loop21 hl hh ho (res := w) (fun h1 env G h4 => ?_) (fun h1 env G => ?_) r.stages.length 0 [] _ (by omega) hw ?_ ?_ ?_ ?_
  · simp -implicitDefEqProofs [h4]
    refine cv_fz 3 hcl rfl ?_
    simp
  · rw [h1]
    simp -implicitDefEqProofs
    refine cv_fz 3 hcl rfl ?_
    simp [errV_0]
  all_goals simp [rp, stgsV]
def stepsO (fs : List Nat) (j : Nat) : List SV := fs.map fun k => .fn (.func k) [rp j] []
theorem loop16 {fs : List Nat} {ws : List (Int × Int)} {q T : Nat} (hf : fs.length = 5) (hws : ws.length = 5) (hq : H[q]? = some ⟨stepsO fs j, T, 0, true⟩) (hall : ∀ i (h1 : i < fs.length) (h2 : i < ws.length) L, Ok Tryd.prog fs[i] [rp j] (H ++ L) (.ret (errV ws[i].1 ws[i].2)) (H ++ L)) {N : Nat} {K : XE → Env → List AO → Prop} {res : Int × Int}
    (hret : res.1 ≠ 0 → ∀ env G, env.get 2 = errV res.1 res.2 → K .ret env (H ++ G)) (hexit : res = (0, 0) → ∀ env G, K (.exit 0) env (H ++ G)) :
    ∀ (n i : Nat) (G : List AO) (env : Env), i + n = 5 → firstF (ws.drop i) = res → env.get 6 = .own q 0 5 1 0 → env.get 7 = i64 5 → env.get 8 = i64 i →
      LI Tryd.prog N drawB l16_0 env (H ++ G) K := by
  have hj := getElem?_lt hq
  have e1 := fun L => oc_app hq rfl rfl L
  intro n
  induction n with
  | zero =>
    intro i G env hi hr hs hn hii
    refine li_go hm l16_0.eq_1 ?_
    have e : i = 5 := by omega
    subst e
    rw [List.drop_of_length_le (by omega)] at hr
    simp -implicitDefEqProofs [hs, hn, hii]
    exact hexit hr.symm _ _
  | succ n ih =>
    intro i G env hi hr hs hn hii
    refine li_go hm l16_0.eq_1 ?_
    have hlt : i < fs.length := by omega
    have hlt2 : i < ws.length := by omega
    have hlt5 : i < 5 := by omega
    have hlt' : (i : Int) < 5 := by omega
    rw [List.drop_eq_getElem_cons hlt2, firstF] at hr
    have h := hall i hlt hlt2
    have hc : ∀ h, (stepsO fs j)[i]'h = .fn (.func fs[i]) [rp j] [] := fun h => by simp [stepsO]
    have hsl : (stepsO fs j).length = 5 := by simp [stepsO, hf]
    generalize ws[i] = w at hr h
    generalize fs[i] = k at h hc
    simp -implicitDefEqProofs [hs, hn, hii, hlt', hlt5, e1, hj, hc, hsl]
    refine ⟨by omega, call_of (h _) ?_⟩
    by_cases hw : w.1 = 0
    · rw [if_neg (by simpa using hw)] at hr
      have hev : errV w.1 w.2 = .val .nilIface := by rw [hw]; rfl
      rw [hev]
      simp -implicitDefEqProofs [hs, hn, hii]
      refine ih (i + 1) _ _ (by omega) hr ?_ ?_ ?_
      all_goals simp [hs, hn, wrap_suc (show i < 9223372036854775807 by omega)]
    · rw [if_pos hw] at hr
      subst hr
      have hev := errV_of hw w.2
      rw [hev]
      simp -implicitDefEqProofs [hs, hn, hii]
      refine hret hw _ _ ?_
      simp [hev]
theorem ok16 {fs : List Nat} {ws : List (Int × Int)} {q T : Nat} (hf : fs.length = 5) (hws : ws.length = 5) (hq : H[q]? = some ⟨stepsO fs j, T, 0, true⟩) (hall : ∀ i (h1 : i < fs.length) (h2 : i < ws.length) L, Ok Tryd.prog fs[i] [rp j] (H ++ L) (.ret (errV ws[i].1 ws[i].2)) (H ++ L)) :
    Ok Tryd.prog 16 [.own q 0 5 1 0] H (.ret (errV (firstF ws).1 (firstF ws).2)) H := by
  have hj := getElem?_lt hq
  generalize hw : firstF ws = w
  refine ok_fn hm Tryd.func16 c16 (by simp) fun hcl => ?_
  simp -implicitDefEqProofs [i16, r16]
  refine LI.cong (H' := H ++ []) (by simp) ?_
  refine loop16 hf hws hq hall (res := w) (fun h1 env G h4 => ?_) (fun h1 env G => ?_) 5 0 [] _ (by omega) hw ?_ ?_ ?_
  · simp -implicitDefEqProofs [h4]
    refine cv_fz 3 hcl rfl ?_
    simp
  · rw [h1]
    simp -implicitDefEqProofs
    refine cv_fz 3 hcl rfl ?_
    simp [errV_0]
  all_goals simp
/-- What rules have to be for the model to hold them. -/
structure RulesP.Ok (r : RulesP) : Prop where
  vars : r.vars.length < 1099511627776
  stages : r.stages.length < 4611686018427387904
  st : ∀ x ∈ r.stages, x.Ok
theorem firstF_0 : ∀ l : List (Int × Int), (firstF l).1 = 0 → firstF l = (0, 0)
  | [], _ => rfl
  | w :: l, h => by
    rw [firstF] at h ⊢
    by_cases hw : w.1 = 0
    · rw [if_neg (by simpa using hw)] at h ⊢
      exact firstF_0 l h
    · rw [if_pos hw] at h
      exact absurd h hw
theorem ok6 (hr : r.Ok) : Ok Tryd.prog 6 [rulesV r] H (.ret (.agg [i64 (checkF r).1, i64 (checkF r).2])) H := by
  have h14 := fun H => ok14 (H := H) (r := r) hr.vars
  have h13 := fun H => ok13 (H := H) (vs := namesOf r) (by have := hr.vars; simp [namesOf]; omega)
  generalize hw : checkF r = w
  simp only [rulesV, RulesP.c] at h14
  refine ok_fn hm Tryd.func6 c6 (by simp) fun hcl => ?_
  simp -implicitDefEqProofs [i6, r6, rulesV, RulesP.c]
  refine callq_go (fun _ => h14 _) ?_
  simp -implicitDefEqProofs
  refine callq_go (fun _ => h13 _) ?_
  simp -implicitDefEqProofs [typV]
  have hc : ∀ L, Ok Tryd.prog 16 [.own (H.length + 3) 0 5 1 0] (H ++ ⟨r.c, 30, 0, true⟩ :: ⟨[i64 0, i64 0], 25, 0, true⟩ :: cO r :: ⟨stepsO [17, 18, 19, 20, 21] (H.length + 2), 57, 0, true⟩ :: L) (.ret (errV w.1 w.2)) (H ++ ⟨r.c, 30, 0, true⟩ :: ⟨[i64 0, i64 0], 25, 0, true⟩ :: cO r :: ⟨stepsO [17, 18, 19, 20, 21] (H.length + 2), 57, 0, true⟩ :: L) := fun L => by
    rw [← hw]
    refine ok16 (j := H.length + 2) (T := 57) (fs := [17, 18, 19, 20, 21]) rfl rfl (by simp) fun i h1 h2 L2 => ?_
    have ho : ((H ++ ⟨r.c, 30, 0, true⟩ :: ⟨[i64 0, i64 0], 25, 0, true⟩ :: cO r :: ⟨stepsO [17, 18, 19, 20, 21] (H.length + 2), 57, 0, true⟩ :: L) ++ L2)[H.length + 2]? = some (cO r) := by
      rw [List.append_assoc, List.getElem?_append_right (by omega), show H.length + 2 - H.length = 2 by omega]; rfl
    have hst := hr.stages
    rcases i with _ | _ | _ | _ | _ | i
    · exact ok17 ho
    · exact ok18 ho (by have := hr.vars; omega)
    · exact ok19 ho hr.stages
    · exact ok20 ho hr.stages
    · exact ok21 ho hr.stages hr.st
    · exact absurd h1 (by simp)
  refine ⟨⟨rfl, rfl, rfl⟩, call_go (hc []) ?_⟩
  by_cases h0 : w.1 = 0
  · have hev : errV w.1 w.2 = .val .nilIface := by rw [h0]; rfl
    rw [hev]
    simp -implicitDefEqProofs
    have hw0 : w = (0, 0) := by subst hw; exact firstF_0 _ h0
    rw [hw0]
    refine cv_fz 4 hcl rfl ?_
    simp
  · have hev := errV_of h0 w.2
    have h22 := fun L => ok22 (H := L) h0 w.2
    rw [hev] at h22
    rw [hev]
    simp -implicitDefEqProofs
    refine call_go (h22 _) ?_
    simp -implicitDefEqProofs [fltV]
    refine cv_fz 4 hcl rfl ?_
    simp
end
end Go.Proofs.YthmdmnfojbnobaaDoor

/- E17 -/
namespace Go.Proofs.YthmdmnfojbnobaaDoor
open Go.Ab
def xS : List (List UInt8) := [[120]]
def okA (a : ActP) : Bool := decide (a.sets.length < 1099511627776) && (a.wh.all (fun e => decide (e.hgt ≤ 100000)) && a.sets.all (fun s => decide (s.e.hgt ≤ 100000)))
def okS (x : StageP) : Bool := x.wt.all (fun e => decide (e.hgt ≤ 100000)) && (decide (x.seen.length < 4611686018427387904) && (x.who.all (fun e => decide (e.hgt ≤ 100000)) && (decide (x.acts.length < 4611686018427387904) && (x.acts.all okA && (decide (x.pays.length < 4611686018427387904) && x.pays.all (fun e => decide (e.hgt ≤ 100000)))))))
def okR (r : RulesP) : Bool := decide (r.vars.length < 1099511627776) && (decide (r.stages.length < 4611686018427387904) && r.stages.all okS)
theorem okA_ok {a : ActP} (h : okA a = true) : a.Ok := by
  simp only [okA, Bool.and_eq_true, decide_eq_true_eq, List.all_eq_true] at h
  exact ⟨h.1, h.2.1, h.2.2⟩
theorem okS_ok {x : StageP} (h : okS x = true) : x.Ok := by
  simp only [okS, Bool.and_eq_true, decide_eq_true_eq, List.all_eq_true] at h
  obtain ⟨h1, h2, h3, h4, h5, h6, h7⟩ := h
  exact ⟨h1, h2, h3, h4, fun a ha => okA_ok (h5 a ha), h6, h7⟩
theorem okR_ok {r : RulesP} (h : okR r = true) : r.Ok := by
  simp only [okR, Bool.and_eq_true, decide_eq_true_eq, List.all_eq_true] at h
  exact ⟨h.1, h.2.1, fun x hx => okS_ok (h.2.2 x hx)⟩
section
variable {H : List AO} {l : List UInt8}
theorem ok12 (hl : l.length < 4611686018427387904) : Ok Tryd.prog 12 [st (B l)] H (.ret (exprR l).1.v) H := by
  have h := fun H => ok25 (H := H) hl
  generalize exprR l = q at h ⊢
  obtain ⟨⟨op, n, nm, es, p⟩, e, at_⟩ := q
  simp only [Ex.v, Ex.c] at h
  refine ok_fn hm Tryd.func12 c12 (by simp) fun hcl => ?_
  simp -implicitDefEqProofs [i12, r12, Ex.v, Ex.c]
  refine call_go (h _) ?_
  simp -implicitDefEqProofs [fltV]
  refine cv_fz 4 hcl rfl ?_
  simp
theorem ok7 (hl : l.length < 4611686018427387904) : Ok Tryd.prog 7 [st (B l)] H (.ret (rulesV (parseR l).1)) H := by
  have h := fun H => ok23 (H := H) hl
  generalize parseR l = q at h ⊢
  obtain ⟨⟨nm, pl, vs, ss⟩, e, at_⟩ := q
  simp only [rulesV, RulesP.c] at h
  refine ok_fn hm Tryd.func7 c7 (by simp) fun hcl => ?_
  simp -implicitDefEqProofs [i7, r7, rulesV, RulesP.c]
  refine call_go (h _) ?_
  simp -implicitDefEqProofs [fltV]
  refine cv_fz 4 hcl rfl ?_
  simp
theorem ok5 (hl : l.length < 4611686018427387904) {k e p : Int} (hh : decide ((exprR l).1.hgt ≤ 100000) = true) (ht : tyE xS (exprR l).1 = (k, e, p)) : Ok Tryd.prog 5 [st (B l), i64 k, i64 e, i64 p] H (.ret (bl true)) H := by
  have h := fun H => ok12 (H := H) hl
  have h10 := fun H x (hx : IsS H x xS) => ok10x (H := H) (vs := xS) hx (of_decide_eq_true hh) (by decide)
  rw [ht] at h10
  refine ok_fn hm Tryd.func5 c5 (by simp) fun hcl => ?_
  simp -implicitDefEqProofs [i5, r5]
  refine call_go (h _) ?_
  simp -implicitDefEqProofs
  refine call_go (h10 _ _ (IsS.own1 (T := 9) (k := 0) rfl rfl)) ?_
  simp -implicitDefEqProofs [fltV]
  refine cv_fz 4 hcl rfl ?_
  simp
end
end Go.Proofs.YthmdmnfojbnobaaDoor

/- E18 -/
namespace Go.Proofs.YthmdmnfojbnobaaDoor
open Go.Ab
section
variable {H : List AO}
theorem ex0 : Ok Tryd.prog 5 [st ⟨#[49, 32, 43, 32, 120]⟩, i64 1, i64 0, i64 0] H (.ret (bl true)) H := ok5 (l := [49, 32, 43, 32, 120]) (by decide) (by kernel_rfl) (by kernel_rfl)
theorem ex1 : Ok Tryd.prog 5 [st ⟨#[120, 32, 60, 32, 50, 32, 97, 110, 100, 32, 110, 111, 116, 32, 120, 32, 61, 61, 32, 49]⟩, i64 2, i64 0, i64 0] H (.ret (bl true)) H := ok5 (l := [120, 32, 60, 32, 50, 32, 97, 110, 100, 32, 110, 111, 116, 32, 120, 32, 61, 61, 32, 49]) (by decide) (by kernel_rfl) (by kernel_rfl)
theorem ex2 : Ok Tryd.prog 5 [st ⟨#[105, 102, 40, 120, 32, 60, 32, 49, 44, 32, 50, 44, 32, 120, 41]⟩, i64 1, i64 0, i64 0] H (.ret (bl true)) H := ok5 (l := [105, 102, 40, 120, 32, 60, 32, 49, 44, 32, 50, 44, 32, 120, 41]) (by decide) (by kernel_rfl) (by kernel_rfl)
theorem ex3 : Ok Tryd.prog 5 [st ⟨#[121]⟩, i64 0, i64 7, i64 0] H (.ret (bl true)) H := ok5 (l := [121]) (by decide) (by kernel_rfl) (by kernel_rfl)
theorem ex4 : Ok Tryd.prog 5 [st ⟨#[49, 32, 43, 32, 40, 120, 32, 60, 32, 50, 41]⟩, i64 0, i64 10, i64 7] H (.ret (bl true)) H := ok5 (l := [49, 32, 43, 32, 40, 120, 32, 60, 32, 50, 41]) (by decide) (by kernel_rfl) (by kernel_rfl)
theorem ex5 : Ok Tryd.prog 5 [st ⟨#[105, 102, 40, 49, 44, 32, 50, 44, 32, 51, 41]⟩, i64 0, i64 10, i64 3] H (.ret (bl true)) H := ok5 (l := [105, 102, 40, 49, 44, 32, 50, 44, 32, 51, 41]) (by decide) (by kernel_rfl) (by kernel_rfl)
theorem ex6 : Ok Tryd.prog 5 [st ⟨#[105, 102, 40, 120, 32, 60, 32, 49, 44, 32, 50, 44, 32, 120, 32, 60, 32, 51, 41]⟩, i64 0, i64 10, i64 15] H (.ret (bl true)) H := ok5 (l := [105, 102, 40, 120, 32, 60, 32, 49, 44, 32, 50, 44, 32, 120, 32, 60, 32, 51, 41]) (by decide) (by kernel_rfl) (by kernel_rfl)
def rt0 : List UInt8 := [103, 97, 109, 101, 32, 103, 59, 32, 112, 108, 97, 121, 101, 114, 115, 32, 53, 59, 32, 101, 110, 100, 32, 123, 32, 112, 97, 121, 32, 49, 59, 32, 125]
def rr0 : RulesP := (parseR rt0).1
theorem ra0 : Ok Tryd.prog 7 [st ⟨#[103, 97, 109, 101, 32, 103, 59, 32, 112, 108, 97, 121, 101, 114, 115, 32, 53, 59, 32, 101, 110, 100, 32, 123, 32, 112, 97, 121, 32, 49, 59, 32, 125]⟩] H (.ret (rulesV rr0)) H := ok7 (l := rt0) (by decide)
theorem rc0 : checkF rr0 = (2, 0) := by kernel_rfl
theorem rb0 : Ok Tryd.prog 6 [rulesV rr0] H (.ret (.agg [i64 2, i64 0])) H := by
  have := ok6 (H := H) (r := rr0) (okR_ok (by kernel_rfl))
  rwa [rc0] at this
def rt1 : List UInt8 := [103, 97, 109, 101, 32, 103, 59, 32, 112, 108, 97, 121, 101, 114, 115, 32, 50, 59, 32, 101, 110, 100, 32, 123, 32, 112, 97, 121, 32, 49, 44, 32, 50, 59, 32, 125]
def rr1 : RulesP := (parseR rt1).1
theorem ra1 : Ok Tryd.prog 7 [st ⟨#[103, 97, 109, 101, 32, 103, 59, 32, 112, 108, 97, 121, 101, 114, 115, 32, 50, 59, 32, 101, 110, 100, 32, 123, 32, 112, 97, 121, 32, 49, 44, 32, 50, 59, 32, 125]⟩] H (.ret (rulesV rr1)) H := ok7 (l := rt1) (by decide)
theorem rc1 : checkF rr1 = (0, 0) := by kernel_rfl
theorem rb1 : Ok Tryd.prog 6 [rulesV rr1] H (.ret (.agg [i64 0, i64 0])) H := by
  have := ok6 (H := H) (r := rr1) (okR_ok (by kernel_rfl))
  rwa [rc1] at this
def rt2 : List UInt8 := [103, 97, 109, 101, 32, 103, 59, 32, 112, 108, 97, 121, 101, 114, 115, 32, 50, 59, 32, 101, 110, 100, 32, 123, 32, 112, 97, 121, 32, 49, 59, 32, 125]
def rr2 : RulesP := (parseR rt2).1
theorem ra2 : Ok Tryd.prog 7 [st ⟨#[103, 97, 109, 101, 32, 103, 59, 32, 112, 108, 97, 121, 101, 114, 115, 32, 50, 59, 32, 101, 110, 100, 32, 123, 32, 112, 97, 121, 32, 49, 59, 32, 125]⟩] H (.ret (rulesV rr2)) H := ok7 (l := rt2) (by decide)
theorem rc2 : checkF rr2 = (3, 19) := by kernel_rfl
theorem rb2 : Ok Tryd.prog 6 [rulesV rr2] H (.ret (.agg [i64 3, i64 19])) H := by
  have := ok6 (H := H) (r := rr2) (okR_ok (by kernel_rfl))
  rwa [rc2] at this
def rt3 : List UInt8 := [103, 97, 109, 101, 32, 103, 59, 32, 112, 108, 97, 121, 101, 114, 115, 32, 50, 59, 32, 101, 110, 100, 32, 123, 32, 112, 97, 121, 32, 49, 44, 32, 49, 32, 60, 32, 50, 59, 32, 125]
def rr3 : RulesP := (parseR rt3).1
theorem ra3 : Ok Tryd.prog 7 [st ⟨#[103, 97, 109, 101, 32, 103, 59, 32, 112, 108, 97, 121, 101, 114, 115, 32, 50, 59, 32, 101, 110, 100, 32, 123, 32, 112, 97, 121, 32, 49, 44, 32, 49, 32, 60, 32, 50, 59, 32, 125]⟩] H (.ret (rulesV rr3)) H := ok7 (l := rt3) (by decide)
theorem rc3 : checkF rr3 = (10, 34) := by kernel_rfl
theorem rb3 : Ok Tryd.prog 6 [rulesV rr3] H (.ret (.agg [i64 10, i64 34])) H := by
  have := ok6 (H := H) (r := rr3) (okR_ok (by kernel_rfl))
  rwa [rc3] at this
def rt4 : List UInt8 := [103, 97, 109, 101, 32, 103, 59, 32, 112, 108, 97, 121, 101, 114, 115, 32, 49, 59, 32, 97, 58, 32, 116, 117, 114, 110, 32, 48, 32, 123, 32, 97, 99, 116, 105, 111, 110, 32, 108, 32, 123, 32, 125, 32, 103, 111, 116, 111, 32, 97, 59, 32, 125, 32, 101, 110, 100, 32, 123, 32, 112, 97, 121, 32, 48, 59, 32, 125]
def rr4 : RulesP := (parseR rt4).1
theorem ra4 : Ok Tryd.prog 7 [st ⟨#[103, 97, 109, 101, 32, 103, 59, 32, 112, 108, 97, 121, 101, 114, 115, 32, 49, 59, 32, 97, 58, 32, 116, 117, 114, 110, 32, 48, 32, 123, 32, 97, 99, 116, 105, 111, 110, 32, 108, 32, 123, 32, 125, 32, 103, 111, 116, 111, 32, 97, 59, 32, 125, 32, 101, 110, 100, 32, 123, 32, 112, 97, 121, 32, 48, 59, 32, 125]⟩] H (.ret (rulesV rr4)) H := ok7 (l := rt4) (by decide)
theorem rc4 : checkF rr4 = (9, 31) := by kernel_rfl
theorem rb4 : Ok Tryd.prog 6 [rulesV rr4] H (.ret (.agg [i64 9, i64 31])) H := by
  have := ok6 (H := H) (r := rr4) (okR_ok (by kernel_rfl))
  rwa [rc4] at this
def rt5 : List UInt8 := [103, 97, 109, 101, 32, 103, 59, 32, 112, 108, 97, 121, 101, 114, 115, 32, 49, 59, 32, 116, 117, 114, 110, 32, 48, 32, 123, 32, 97, 99, 116, 105, 111, 110, 32, 108, 32, 123, 32, 125, 32, 97, 99, 116, 105, 111, 110, 32, 108, 32, 123, 32, 125, 32, 125, 32, 101, 110, 100, 32, 123, 32, 112, 97, 121, 32, 48, 59, 32, 125]
def rr5 : RulesP := (parseR rt5).1
theorem ra5 : Ok Tryd.prog 7 [st ⟨#[103, 97, 109, 101, 32, 103, 59, 32, 112, 108, 97, 121, 101, 114, 115, 32, 49, 59, 32, 116, 117, 114, 110, 32, 48, 32, 123, 32, 97, 99, 116, 105, 111, 110, 32, 108, 32, 123, 32, 125, 32, 97, 99, 116, 105, 111, 110, 32, 108, 32, 123, 32, 125, 32, 125, 32, 101, 110, 100, 32, 123, 32, 112, 97, 121, 32, 48, 59, 32, 125]⟩] H (.ret (rulesV rr5)) H := ok7 (l := rt5) (by decide)
theorem rc5 : checkF rr5 = (8, 41) := by kernel_rfl
theorem rb5 : Ok Tryd.prog 6 [rulesV rr5] H (.ret (.agg [i64 8, i64 41])) H := by
  have := ok6 (H := H) (r := rr5) (okR_ok (by kernel_rfl))
  rwa [rc5] at this
def rt6 : List UInt8 := [103, 97, 109, 101, 32, 103, 59, 32, 112, 108, 97, 121, 101, 114, 115, 32, 49, 59, 32, 116, 117, 114, 110, 32, 48, 32, 123, 32, 97, 99, 116, 105, 111, 110, 32, 108, 32, 123, 32, 125, 32, 125]
def rr6 : RulesP := (parseR rt6).1
theorem ra6 : Ok Tryd.prog 7 [st ⟨#[103, 97, 109, 101, 32, 103, 59, 32, 112, 108, 97, 121, 101, 114, 115, 32, 49, 59, 32, 116, 117, 114, 110, 32, 48, 32, 123, 32, 97, 99, 116, 105, 111, 110, 32, 108, 32, 123, 32, 125, 32, 125]⟩] H (.ret (rulesV rr6)) H := ok7 (l := rt6) (by decide)
theorem rc6 : checkF rr6 = (3, 19) := by kernel_rfl
theorem rb6 : Ok Tryd.prog 6 [rulesV rr6] H (.ret (.agg [i64 3, i64 19])) H := by
  have := ok6 (H := H) (r := rr6) (okR_ok (by kernel_rfl))
  rwa [rc6] at this
def rt7 : List UInt8 := [103, 97, 109, 101, 32, 103, 59, 32, 112, 108, 97, 121, 101, 114, 115, 32, 49, 59, 32, 118, 97, 114, 32, 120, 32, 61, 32, 48, 59, 32, 100, 101, 97, 108, 32, 120, 32, 105, 110, 32, 48, 32, 46, 46, 32, 53, 57, 59, 32, 101, 110, 100, 32, 123, 32, 112, 97, 121, 32, 48, 59, 32, 125]
def rr7 : RulesP := (parseR rt7).1
theorem ra7 : Ok Tryd.prog 7 [st ⟨#[103, 97, 109, 101, 32, 103, 59, 32, 112, 108, 97, 121, 101, 114, 115, 32, 49, 59, 32, 118, 97, 114, 32, 120, 32, 61, 32, 48, 59, 32, 100, 101, 97, 108, 32, 120, 32, 105, 110, 32, 48, 32, 46, 46, 32, 53, 57, 59, 32, 101, 110, 100, 32, 123, 32, 112, 97, 121, 32, 48, 59, 32, 125]⟩] H (.ret (rulesV rr7)) H := ok7 (l := rt7) (by decide)
theorem rc7 : checkF rr7 = (0, 0) := by kernel_rfl
theorem rb7 : Ok Tryd.prog 6 [rulesV rr7] H (.ret (.agg [i64 0, i64 0])) H := by
  have := ok6 (H := H) (r := rr7) (okR_ok (by kernel_rfl))
  rwa [rc7] at this
def rt8 : List UInt8 := [103, 97, 109, 101, 32, 103, 59, 32, 112, 108, 97, 121, 101, 114, 115, 32, 49, 59, 32, 118, 97, 114, 32, 120, 32, 61, 32, 48, 59, 32, 100, 101, 97, 108, 32, 120, 32, 105, 110, 32, 48, 32, 46, 46, 32, 54, 48, 59, 32, 101, 110, 100, 32, 123, 32, 112, 97, 121, 32, 48, 59, 32, 125]
def rr8 : RulesP := (parseR rt8).1
theorem ra8 : Ok Tryd.prog 7 [st ⟨#[103, 97, 109, 101, 32, 103, 59, 32, 112, 108, 97, 121, 101, 114, 115, 32, 49, 59, 32, 118, 97, 114, 32, 120, 32, 61, 32, 48, 59, 32, 100, 101, 97, 108, 32, 120, 32, 105, 110, 32, 48, 32, 46, 46, 32, 54, 48, 59, 32, 101, 110, 100, 32, 123, 32, 112, 97, 121, 32, 48, 59, 32, 125]⟩] H (.ret (rulesV rr8)) H := ok7 (l := rt8) (by decide)
theorem rc8 : checkF rr8 = (2, 30) := by kernel_rfl
theorem rb8 : Ok Tryd.prog 6 [rulesV rr8] H (.ret (.agg [i64 2, i64 30])) H := by
  have := ok6 (H := H) (r := rr8) (okR_ok (by kernel_rfl))
  rwa [rc8] at this
def rt9 : List UInt8 := [103, 97, 109, 101, 32, 103, 59, 32, 112, 108, 97, 121, 101, 114, 115, 32, 52, 59, 32, 101, 110, 100, 32, 123, 32, 112, 97, 121, 32, 48, 44, 32, 48, 44, 32, 48, 44, 32, 48, 59, 32, 125]
def rr9 : RulesP := (parseR rt9).1
theorem ra9 : Ok Tryd.prog 7 [st ⟨#[103, 97, 109, 101, 32, 103, 59, 32, 112, 108, 97, 121, 101, 114, 115, 32, 52, 59, 32, 101, 110, 100, 32, 123, 32, 112, 97, 121, 32, 48, 44, 32, 48, 44, 32, 48, 44, 32, 48, 59, 32, 125]⟩] H (.ret (rulesV rr9)) H := ok7 (l := rt9) (by decide)
theorem rc9 : checkF rr9 = (0, 0) := by kernel_rfl
theorem rb9 : Ok Tryd.prog 6 [rulesV rr9] H (.ret (.agg [i64 0, i64 0])) H := by
  have := ok6 (H := H) (r := rr9) (okR_ok (by kernel_rfl))
  rwa [rc9] at this
theorem ok8 : Ok Tryd.prog 8 [] H (.ret (bl true)) H := by
  refine ok_fn hm Tryd.func8 c8 (by simp) fun hcl => ?_
  simp -implicitDefEqProofs [i8, r8]
  refine call_go ex0 ?_
  simp -implicitDefEqProofs
  refine callq_go (fun _ => ex1) ?_
  simp -implicitDefEqProofs
  refine callq_go (fun _ => ra0) ?_
  simp -implicitDefEqProofs
  refine callq_st (fun _ => rb0) ?_
  simp -implicitDefEqProofs
  exact cv_id
theorem ok3 : Ok Tryd.prog 3 [] H (.ret (bl true)) H := by
  refine ok_fn hm Tryd.func3 c3 (by simp) fun hcl => ?_
  simp -implicitDefEqProofs [i3, r3]
  refine call_go ex2 ?_
  simp -implicitDefEqProofs
  refine callq_go (fun _ => ex3) ?_
  simp -implicitDefEqProofs
  refine callq_go (fun _ => ex4) ?_
  simp -implicitDefEqProofs
  refine callq_go (fun _ => ex5) ?_
  simp -implicitDefEqProofs
  refine callq_go (fun _ => ex6) ?_
  simp -implicitDefEqProofs
  refine call_go (ra1) ?_
  simp -implicitDefEqProofs
  refine call_go (rb1) ?_
  simp -implicitDefEqProofs
  refine callq_go (fun _ => ra2) ?_
  simp -implicitDefEqProofs
  refine callq_st (fun _ => rb2) ?_
  simp -implicitDefEqProofs
  refine callq_go (fun _ => ra3) ?_
  simp -implicitDefEqProofs
  refine callq_st (fun _ => rb3) ?_
  simp -implicitDefEqProofs
  refine call_go (ra4) ?_
  simp -implicitDefEqProofs
  refine call_go (rb4) ?_
  simp -implicitDefEqProofs
  refine callq_go (fun _ => ra5) ?_
  simp -implicitDefEqProofs
  refine callq_st (fun _ => rb5) ?_
  simp -implicitDefEqProofs
  refine callq_go (fun _ => ra6) ?_
  simp -implicitDefEqProofs
  refine callq_st (fun _ => rb6) ?_
  simp -implicitDefEqProofs
  refine call_go (ra7) ?_
  simp -implicitDefEqProofs
  refine call_go (rb7) ?_
  simp -implicitDefEqProofs
  refine callq_go (fun _ => ra8) ?_
  simp -implicitDefEqProofs
  refine callq_st (fun _ => rb8) ?_
  simp -implicitDefEqProofs
  refine callq_go (fun _ => ra9) ?_
  simp -implicitDefEqProofs
  refine callq_st (fun _ => rb9) ?_
  simp -implicitDefEqProofs
  refine call_go ok8 ?_
  simp -implicitDefEqProofs
  exact cv_id
end
end Go.Proofs.YthmdmnfojbnobaaDoor

/- E19 -/
namespace Go.Proofs.YthmdmnfojbnobaaDoor
open Go.Ab Go.ChangeShapes Go.WideShapes Go.ChangeAt Go.RowKit
def laid3 : List (String × DataW Unit) := [("errors.errorType", Rows.laid_errors_errorType)]
theorem own : ownKnob Tryd.prog.godebug = none := by kernel_rfl
theorem laidOut : laidOutB Tryd.prog = true := by kernel_rfl
theorem gE : Tryd.prog.globalNamed "errors.errorType" = some 0 := by kernel_rfl
theorem rtE : (Tryd.prog.cutTypes.find? (·.1 == "internal/reflectlite.rtype")).map (·.2) = some 129 := by kernel_rfl
theorem size : Tryd.prog.types.size = 172 := by kernel_rfl
theorem oneRow : ((List.range 172).filter fun t => Tryd.prog.rowNamed t [101, 114, 114, 111, 114]) = [55] := by kernel_rfl
theorem door_met (os : Os) (args : Array Value) : laidMetH Tryd.prog laid3 ((World.doorLaid Tryd.prog 400 os).forCall (fun _ _ => 0) ⟨#[], args, []⟩).memory :=
  laidMetH_of_parts3 (fuel := 8) (laidMet_of_run' 8 (by kernel_rfl) (by kernel_rfl)) (by kernel_rfl) (by kernel_rfl)
theorem gl_of {W : World} (h : laidMetH Tryd.prog laid3 W) : (st0 W).GL := by
  have h' : laidMet Tryd.prog [] W ∧ handlesMet Tryd.prog [("errors.errorType", Rows.laid_errors_errorType)] W := h
  obtain ⟨_, hh⟩ := h'
  obtain ⟨name, u, ty, e1, e2, e3, e4, e5⟩ := hh _ (List.mem_singleton.2 rfl)
  have en : name = [101, 114, 114, 111, 114] := (Option.some.inj e1).symm
  subst en
  obtain rfl := Option.some.inj (rtE.symm.trans e2)
  have hm : ty ∈ (List.range 172).filter fun t => Tryd.prog.rowNamed t [101, 114, 114, 111, 114] := List.mem_filter.2 ⟨List.mem_range.2 (by rw [← size]; exact e3), e4⟩
  rw [oneRow] at hm
  obtain rfl := List.mem_singleton.1 hm
  have hh : typeHandle Tryd.prog 55 = .pointer (some ⟨1, 55, none⟩) := by kernel_rfl
  rw [hh] at e5
  have key : ∀ (g : Nat) (nm : String) (cs : Array Value) (us : List Value), Tryd.prog.globalNamed nm = some g → W.var? Tryd.prog nm = some cs → cs.toList = us → (st0 W).Imm ⟨g, 0, none⟩ us := by
    intro g nm cs us h1 h2 h3
    refine ⟨fun j u hj => ?_, fun _ => rw0 W _⟩
    have := World.var?_cell h1 h2 j
    have e : ((⟨g, 0, none⟩ : Addr).add j) = ⟨g, j, none⟩ := by unfold Addr.add; split <;> simp_all
    rw [e]
    show W.cell? _ = _
    rw [this, ← Array.getElem?_toList, h3]; exact hj
  intro g us hg
  match g, hg with
  | 0, hg => cases hg; exact key 0 _ _ _ gE e5 rfl
end Go.Proofs.YthmdmnfojbnobaaDoor

/- E20 -/
namespace Go.Proofs.YthmdmnfojbnobaaDoor
open Go Go.Ab Go.ChangeShapes Go.WideShapes Go.ChangeAt Go.RowKit
theorem leaves_of_alone {P : Program} {last : Machine} {w : World} {t : Trace} (h : aloneAtReturn P last w t) : leavingAtReturn P last w t := by
  obtain ⟨⟨h1, h2⟩, h3, h4⟩ := h
  refine ⟨h3, ⟨fun g hg => ⟨0, ?_⟩, h2⟩, h4⟩
  unfold Machine.othersDone at h1
  have h5 := List.all_eq_true.1 h1 g hg
  show g.status = .finished
  exact beq_iff_eq.1 h5
theorem leaving_of_handed {a : Assume} {C : Checked} {os : Os} {f : FuncId} {r : Reach} {Pre : World → Array Value → Prop} {Post : World → Array Value → Value → World → Prop}
    (h : ReturnsInHanded a C os f r Pre Post) : ReturnsInLeavingWide a C os f r Pre Post := fun e =>
  ReturnsInOpen.mono (fun _ _ _ x => leaves_of_alone x) (fun _ x => x) (h e)
theorem tied_goes (Lk : Looks) {p : Pinned} {s : OpenSpec} {c : OpenClaim} (kinds : List LaidKind) (tests : Bool) (har : Bool × String) (lk : Bool)
    (hc : c.holds p s) (hw : c.wfByText s = true)
    (htie : c.laidByTextAt Lk p kinds tests)
    (hst : c.start = .entering) (hnb : c.noBlocks = false ∧ c.again = false) (hm : p.checked.prog.mainIs = some (har.1, har.2.toList)) (hn : (!har.1 && har.2.isEmpty && !lk) = false)
    (hl : ∀ f fn, p.checked.prog.funcNamed c.func = some f → p.checked.prog.funcs[f]? = some fn → lk = p.checked.prog.looks [] ∧ ∀ (j : Nat) t, fn.params[j]? = some t → p.checked.prog.wantsStandIn t = false)
    (hg : true = c.goesBy p.checked.prog) :
    Claim7.holds p (.plain s) { stood := { row := c, standIns := [], harness := har, looks := lk }, kinds := [], alts := [], goes := true, laidByText := true, laidKinds := kinds, laidTests := tests, laidLooks := Lk } := by
  have h6 : ∀ r : OpenClaim, Claim7.isSixth { stood := { row := r, standIns := [], harness := har, looks := lk }, kinds := [] } = false := fun r => by simpa [Claim7.isSixth] using hn
  exact ⟨Claim7.tied_new_at Lk kinds tests (Claim7.new_of_sixth hc har lk hst hnb hm (h6 c) hl) hw, (fun D hD => by cases hD), htie, (fun h => by cases h), hg⟩
end Go.Proofs.YthmdmnfojbnobaaDoor

/- E21 -/
namespace Go.Proofs.YthmdmnfojbnobaaDoor
open Go.Ab
mutual
theorem tyE_mem {vs ws : List (List UInt8)} (h : ∀ nm, nm ∈ ws ↔ nm ∈ vs) : ∀ e : Ex, tyE ws e = tyE vs e
  | .mk op n nm l p => by
    unfold tyE
    rw [tyL_mem h l]
    have hm : (nm ∉ ws) = (nm ∉ vs) := propext (not_congr (h nm))
    simp only [hm]
theorem tyL_mem {vs ws : List (List UInt8)} (h : ∀ nm, nm ∈ ws ↔ nm ∈ vs) : ∀ l : List Ex, tyL ws l = tyL vs l
  | [] => by simp only [tyL]
  | e :: r => by simp only [tyL]; rw [tyE_mem h e, tyL_mem h r]
end
mutual
/-- Other names. -/
def rnE : Ex → Ex
  | .mk op n nm l p => .mk op n (if op = 2 then 113 :: nm else nm) (rnL l) p
def rnL : List Ex → List Ex
  | [] => []
  | e :: r => rnE e :: rnL r
end
theorem rnL_len : ∀ l : List Ex, (rnL l).length = l.length
  | [] => rfl
  | e :: r => by simp only [rnL, List.length_cons, rnL_len r]
theorem rnE_at (e : Ex) : (rnE e).at = e.at := by cases e; simp only [rnE, Ex.at]
theorem chkT_rn (own : Int) : ∀ (ts ks : List Int) (l : List Ex), chkT own ts ks (rnL l) = chkT own ts ks l
  | t :: ts, k :: ks, e :: l => by simp only [rnL, chkT, rnE_at, chkT_rn own ts ks l]
  | [], _, _ => by simp [chkT]
  | _ :: _, [], _ => by simp [chkT]
  | _ :: _, _ :: _, [] => by simp [rnL, chkT]
mutual
theorem tyE_rn (vs : List (List UInt8)) : ∀ e : Ex, tyE (vs.map (113 :: ·)) (rnE e) = tyE vs e
  | .mk op n nm l p => by
    unfold rnE tyE
    rw [tyL_rn vs l]
    simp only [rnL_len, chkT_rn]
    have hm : op = 2 → ((if op = 2 then 113 :: nm else nm) ∉ vs.map (113 :: ·)) = (nm ∉ vs) := fun h => by
      rw [if_pos h]
      apply propext
      simp
    by_cases h : op = 2
    · simp only [hm h]
    · simp [h]
theorem tyL_rn (vs : List (List UInt8)) : ∀ l : List Ex, tyL (vs.map (113 :: ·)) (rnL l) = tyL vs l
  | [] => by simp only [rnL, tyL]
  | e :: r => by simp only [rnL, tyL]; rw [tyE_rn vs e, tyL_rn vs r]
end
mutual
theorem rnE_hgt : ∀ e : Ex, (rnE e).hgt = e.hgt
  | .mk op n nm l p => by simp only [rnE, Ex.hgt, rnL_hgt l]
theorem rnL_hgt : ∀ l : List Ex, Ex.hgtL (rnL l) = Ex.hgtL l
  | [] => by simp only [rnL]
  | e :: r => by simp only [rnL, Ex.hgtL, rnE_hgt e, rnL_hgt r]
end
end Go.Proofs.YthmdmnfojbnobaaDoor

/- E22 -/
namespace Go.Proofs.YthmdmnfojbnobaaDoor
open Go.Ab
mutual
/-- The size of an expression, up to more than most. -/
def sizE : Ex → Int → Int
  | .mk _ _ _ l _, m => sizL l m 1
def sizL : List Ex → Int → Int → Int
  | [], _, n => n
  | e :: r, m, n => if n ≤ m then sizL r m (n + sizE e (m - n)) else n
end
mutual
theorem sizE_bd : ∀ (e : Ex) (m : Int), 1 ≤ sizE e m ∧ (sizE e m ≤ m + 1 ∨ sizE e m = 1)
  | .mk _ _ _ l _, m => by
    unfold sizE
    have := sizL_bd l m 1
    omega
theorem sizL_bd : ∀ (l : List Ex) (m n : Int), n ≤ sizL l m n ∧ (sizL l m n ≤ m + 1 ∨ sizL l m n = n)
  | [], m, n => by simp [sizL]
  | e :: r, m, n => by
    unfold sizL
    by_cases h : n ≤ m
    · rw [if_pos h]
      have h1 := sizE_bd e (m - n)
      have h2 := sizL_bd r m (n + sizE e (m - n))
      omega
    · rw [if_neg h]; omega
end
section
variable {H : List AO}
theorem loop9 {l : List Ex} {m : Int} (hm1 : m ≤ 1000000000) (hl : l.length < 4611686018427387904) (hIH : ∀ e ∈ l, ∀ (H : List AO) (m' : Int), 0 ≤ m' → m' ≤ 1000000000 → Ok Tryd.prog 9 [e.v, i64 m'] H (.ret (i64 (sizE e m'))) H) {A : AO} (hA : A.live = true ∧ A.ver = 0 ∧ ∃ a b c d, A.cells = [a, b, c, exS l, d]) {N : Nat} {K : XE → Env → List AO → Prop} {res : Int}
    (hexit : ∀ env G, env.get 5 = i64 res → K (.exit 0) env (H ++ A :: G)) :
    ∀ (k i : Nat) (n : Int) (G : List AO) (env : Env), i + k = l.length → 1 ≤ n → n ≤ 1000000001 → sizL (l.drop i) m n = res → env.get 1 = i64 m → env.get 2 = rp H.length → env.get 5 = i64 n → env.get 6 = i64 i →
      LI Tryd.prog N drawB l9_0 env (H ++ A :: G) K := by
  obtain ⟨hA1, hA2, a, b, c, d, hA3⟩ := hA
  obtain ⟨cs, T, ver, lv⟩ := A
  simp only at hA1 hA2 hA3
  subst hA1 hA2 hA3
  intro k
  induction k with
  | zero =>
    intro i n G env hi hn1 hn2 hr h1 h2 h5 h6
    refine li_go hm l9_0.eq_1 ?_
    have e : i = l.length := by omega
    subst e
    rw [List.drop_length] at hr
    have hr : n = res := hr
    subst hr
    simp -implicitDefEqProofs [h1, h2, h5, h6, rp, exS]
    exact hexit _ _ (by simp [h5])
  | succ k ih =>
    intro i n G env hi hn1 hn2 hr h1 h2 h5 h6
    refine li_go hm l9_0.eq_1 ?_
    have hlt : i < l.length := by omega
    have hlt' : (i : Int) < l.length := by omega
    rw [List.drop_eq_getElem_cons hlt, sizL] at hr
    have hg := exL_get hlt
    have hlen := exL_len l
    have h9 := hIH l[i] (List.getElem_mem hlt)
    have hbd := sizE_bd l[i]
    generalize l[i] = e at hr hg h9 hbd
    by_cases hnm : n ≤ m
    · rw [if_pos hnm] at hr
      have w1 : IntKind.i64.wrap (m - n) = m - n := wrap_id (by omega) (by omega)
      have hb := hbd (m - n)
      simp -implicitDefEqProofs [h1, h2, h5, h6, rp, exS, hlt, hlt', hnm, hg, hlen, w1]
      refine ⟨by omega, call_go (h9 _ (m - n) (by omega) (by omega)) ?_⟩
      generalize sizE e (m - n) = z at hr hb
      have w2 : IntKind.i64.wrap (n + z) = n + z := wrap_id (by omega) (by omega)
      simp -implicitDefEqProofs [h1, h2, h5, h6, rp, exS, w2]
      refine ih (i + 1) (n + z) G _ (by omega) (by omega) (by omega) hr ?_ ?_ ?_ ?_
      all_goals simp [h1, h2, h5, h6, rp, exS, wrap_suc (show i < 9223372036854775807 by omega)]
    · rw [if_neg hnm] at hr
      subst hr
      simp -implicitDefEqProofs [h1, h2, h5, h6, rp, exS, hlt, hlt', hnm]
      exact hexit _ _ (by simp [h5])
mutual
/-- No list of arguments is greater than the memory. -/
def Ex.lim : Ex → Prop
  | .mk _ _ _ l _ => l.length < 4611686018427387904 ∧ Ex.limL l
def Ex.limL : List Ex → Prop
  | [] => True
  | e :: r => e.lim ∧ Ex.limL r
end
mutual
theorem ok9 : ∀ (e : Ex), e.lim → ∀ (H : List AO) (m : Int), 0 ≤ m → m ≤ 1000000000 → Ok Tryd.prog 9 [e.v, i64 m] H (.ret (i64 (sizE e m))) H
  | .mk op n nm l p, he, H, m, h0, h1 => by
    have hIH := ok9L l (by unfold Ex.lim at he; exact he.2)
    have hl : l.length < 4611686018427387904 := by unfold Ex.lim at he; exact he.1
    refine ok_fn hm Tryd.func9 c9 (by simp) fun hcl => ?_
    simp -implicitDefEqProofs [i9, r9, Ex.v, Ex.c]
    refine LI.cong (H' := H ++ ⟨[i64 op, i64 n, st (B nm), exS l, i64 p], 36, 0, true⟩ :: []) (by simp [exS]) ?_
    refine loop9 h1 hl hIH ⟨rfl, rfl, _, _, _, _, rfl⟩ (res := sizL l m 1) (fun env G h5 => ?_) l.length 0 1 [] _ (by omega) (by omega) (by omega) rfl ?_ ?_ ?_ ?_
    · simp -implicitDefEqProofs [h5]
      refine cv_fz 2 hcl rfl ?_
      simp [sizE]
    all_goals simp [rp]
theorem ok9L : ∀ (l : List Ex), Ex.limL l → ∀ e ∈ l, ∀ (H : List AO) (m : Int), 0 ≤ m → m ≤ 1000000000 → Ok Tryd.prog 9 [e.v, i64 m] H (.ret (i64 (sizE e m))) H
  | [], _, _, h => by cases h
  | e :: r, hl, x, hx => by
    unfold Ex.limL at hl
    by_cases hh : x = e
    · rw [hh]; exact ok9 e hl.1
    · exact ok9L r hl.2 x (by simpa [hh] using hx)
end
end
end Go.Proofs.YthmdmnfojbnobaaDoor

/- E23 -/
namespace Go.Proofs.YthmdmnfojbnobaaDoor
open Go.Ab
theorem rnL_app : ∀ (a b : List Ex), rnL (a ++ b) = rnL a ++ rnL b
  | [], b => rfl
  | e :: r, b => by simp only [List.cons_append, rnL, rnL_app r b]
theorem cL_app (a b : List Ex) : Ex.cL (a ++ b) = Ex.cL a ++ Ex.cL b := by
  induction a with
  | nil => rfl
  | cons e r ih => simp [Ex.cL, ih]
section
variable {H : List AO}
theorem loop11 {l : List Ex} (hl : l.length ≤ 1000000) (hIH : ∀ e ∈ l, ∀ (H : List AO), Ok Tryd.prog 11 [e.v] H (.ret (rnE e).v) H) {A B0 : AO} (hA : A.live = true ∧ A.ver = 0 ∧ ∃ a b c d, A.cells = [a, b, c, exS l, d]) {N : Nat} {K : XE → Env → List AO → Prop}
    (hexit : ∀ env G, env.get 1 = rp H.length → env.get 2 = rp (H.length + 1) → env.get 3 = .own (H.length + 2) 0 l.length 5 l.length → K (.exit 0) env (H ++ A :: B0 :: ⟨Ex.cL (rnL l), 36, l.length, true⟩ :: G)) :
    ∀ (k i : Nat) (G : List AO) (env : Env), i + k = l.length → env.get 1 = rp H.length → env.get 2 = rp (H.length + 1) → env.get 3 = .own (H.length + 2) 0 i 5 i → env.get 4 = i64 i →
      LI Tryd.prog N drawB l11_0 env (H ++ A :: B0 :: ⟨Ex.cL (rnL (l.take i)), 36, i, true⟩ :: G) K := by
  obtain ⟨hA1, hA2, a, b, c, d, hA3⟩ := hA
  obtain ⟨cs, T, ver, lv⟩ := A
  simp only at hA1 hA2 hA3
  subst hA1 hA2 hA3
  intro k
  induction k with
  | zero =>
    intro i G env hi h1 h2 h3 h4
    refine li_go hm l11_0.eq_1 ?_
    have e : i = l.length := by omega
    subst e
    simp -implicitDefEqProofs [h1, h2, h3, h4, rp, exS]
    refine hexit _ _ ?_ ?_ ?_ <;> simp [h1, h2, h3, rp]
  | succ k ih =>
    intro i G env hi h1 h2 h3 h4
    refine li_go hm l11_0.eq_1 ?_
    have hlt : i < l.length := by omega
    have hlt' : (i : Int) < l.length := by omega
    have hg := exL_get hlt
    have hlen := exL_len l
    have h11 := hIH l[i] (List.getElem_mem hlt)
    have htk : l.take (i + 1) = l.take i ++ [l[i]] := List.take_succ_eq_append_getElem hlt
    have hcl : (Ex.cL (rnL (l.take i))).length = i * 5 := by rw [exL_len, rnL_len, List.length_take]; congr 1; omega
    generalize l[i] = e at hg h11 htk
    simp -implicitDefEqProofs [h1, h2, h3, h4, rp, exS, hlt, hlt', hg, hlen]
    refine ⟨by omega, call_go (h11 _) ?_⟩
    have hcn : Ex.cL (rnL (l.take (i + 1))) = Ex.cL (rnL (l.take i)) ++ (rnE e).c := by
      rw [htk, rnL_app, cL_app]; simp [rnL, Ex.cL]
    generalize rnE e = f at hcn ⊢
    obtain ⟨op, m, en, el, ep⟩ := f
    simp only [Ex.v, Ex.c] at hcn ⊢
    simp -implicitDefEqProofs [h1, h2, h3, h4, rp, exS, hcl]
    refine ⟨by omega, by omega, ?_⟩
    refine LI.cong ?_ (ih (i + 1) (G ++ [⟨[i64 op, i64 m, st (B en), .slc (Ex.cL el) el.length, i64 ep], 36, 0, true⟩]) _ (by omega) ?_ ?_ ?_ ?_)
    · rw [hcn]; simp [exS]
    all_goals simp [h1, h2, rp, wrap_suc (show i < 9223372036854775807 by omega)]
mutual
/-- No list of arguments is long. -/
def Ex.few : Ex → Prop
  | .mk _ _ nm l _ => (nm.length ≤ 140737488355328 ∧ l.length ≤ 1000000) ∧ Ex.fewL l
def Ex.fewL : List Ex → Prop
  | [] => True
  | e :: r => e.few ∧ Ex.fewL r
end
mutual
theorem ok11 : ∀ (e : Ex), e.few → ∀ (H : List AO), Ok Tryd.prog 11 [e.v] H (.ret (rnE e).v) H
  | .mk op n nm l p, he, H => by
    have hIH := ok11L l (by unfold Ex.few at he; exact he.2)
    have hl : l.length ≤ 1000000 := by unfold Ex.few at he; exact he.1.2
    have hnm : nm.length ≤ 140737488355328 := by unfold Ex.few at he; exact he.1.1
    refine ok_fn hm Tryd.func11 c11 (by simp) fun hcl => ?_
    have key : ∀ (nm' : List UInt8) (env : Env) (K : XE → Env → List AO → Prop) (N : Nat), nm' = (if op = 2 then 113 :: nm else nm) → env.get 1 = rp H.length → env.get 2 = rp (H.length + 1) → env.get 3 = .own (H.length + 2) 0 0 5 0 → env.get 4 = i64 0 →
        (∀ env G, env.get 1 = rp H.length → env.get 2 = rp (H.length + 1) → env.get 3 = .own (H.length + 2) 0 l.length 5 l.length → K (.exit 0) env (H ++ ⟨[i64 op, i64 n, st (B nm'), exS l, i64 p], 36, 0, true⟩ :: ⟨[i64 0, i64 0, st ⟨#[]⟩, .val (.slice none 0 0), i64 0], 36, 0, true⟩ :: ⟨Ex.cL (rnL l), 36, l.length, true⟩ :: G)) →
        LI Tryd.prog N drawB l11_0 env (H ++ ⟨[i64 op, i64 n, st (B nm'), exS l, i64 p], 36, 0, true⟩ :: ⟨[i64 0, i64 0, st ⟨#[]⟩, .val (.slice none 0 0), i64 0], 36, 0, true⟩ :: ⟨[], 36, 0, true⟩ :: []) K := by
      intro nm' env K N hnm h1 h2 h3 h4 hK
      exact loop11 hl hIH ⟨rfl, rfl, _, _, _, _, rfl⟩ hK l.length 0 [] env (by omega) h1 h2 h3 h4
    have hfl : (Ex.cL (rnL l)).length = l.length * 5 := by rw [exL_len, rnL_len]
    have e2 : (Ex.cL (rnL l)).take (l.length * 5) = Ex.cL (rnL l) := List.take_of_length_le (by omega)
    by_cases ho : op = 2
    · have hob : decide (op = 2) = true := by simpa using ho
      simp -implicitDefEqProofs [i11, r11, Ex.v, Ex.c, hob]
      refine ⟨by omega, key (113 :: nm) _ _ _ (by rw [if_pos ho]) (by simp [rp]) (by simp [rp]) (by simp) (by simp) (fun env G h1 h2 h3 => ?_)⟩
      simp -implicitDefEqProofs [h1, h2, h3, rp, exS]
      refine cv_fz 4 hcl rfl ?_
      simp [rnE, Ex.c, ho, hfl, e2, rnL_len]
    · have hob : decide (op = 2) = false := by simpa using ho
      simp -implicitDefEqProofs [i11, r11, Ex.v, Ex.c, hob]
      refine key nm _ _ _ (by rw [if_neg ho]) (by simp [rp]) (by simp [rp]) (by simp) (by simp) (fun env G h1 h2 h3 => ?_)
      simp -implicitDefEqProofs [h1, h2, h3, rp, exS]
      refine cv_fz 4 hcl rfl ?_
      simp [rnE, Ex.c, ho, hfl, e2, rnL_len]
theorem ok11L : ∀ (l : List Ex), Ex.fewL l → ∀ e ∈ l, ∀ (H : List AO), Ok Tryd.prog 11 [e.v] H (.ret (rnE e).v) H
  | [], _, _, h => by cases h
  | e :: r, hl, x, hx => by
    unfold Ex.fewL at hl
    by_cases hh : x = e
    · rw [hh]; exact ok11 e hl.1
    · exact ok11L r hl.2 x (by simpa [hh] using hx)
end
end
end Go.Proofs.YthmdmnfojbnobaaDoor

/- E24 -/
namespace Go.Proofs.YthmdmnfojbnobaaDoor
open Go.Ab
def qn (l : List (List UInt8)) : List (List UInt8) := l.map (113 :: ·)
theorem qn_len (l : List (List UInt8)) : (qn l).length = l.length := by simp [qn]
section
variable {H : List AO}
theorem loop4 {vs : List (List UInt8)} (hl : vs.length ≤ 20) (hv : ∀ v ∈ vs, v.length ≤ 140737488355328) {A : AO} {x5 : SV} {N : Nat} {K : XE → Env → List AO → Prop}
    (hexit : ∀ env G, env.get 0 = .slc (wds vs) vs.length → env.get 3 = rp H.length → env.get 5 = x5 → env.get 6 = .own (H.length + 1) 0 vs.length 1 vs.length → env.get 7 = .own (H.length + 2) 0 vs.length 1 vs.length →
      K (.exit 0) env (H ++ A :: ⟨wds vs.reverse, 9, vs.length, true⟩ :: ⟨wds (qn vs.reverse), 9, vs.length, true⟩ :: G)) :
    ∀ (k i : Nat) (G : List AO) (env : Env), i + k = vs.length → env.get 0 = .slc (wds vs) vs.length → env.get 3 = rp H.length → env.get 5 = x5 → env.get 6 = .own (H.length + 1) 0 i 1 i → env.get 7 = .own (H.length + 2) 0 i 1 i → env.get 8 = i64 ((k : Int) - 1) →
      LI Tryd.prog N drawB l4_0 env (H ++ A :: ⟨wds (vs.reverse.take i), 9, i, true⟩ :: ⟨wds (qn (vs.reverse.take i)), 9, i, true⟩ :: G) K := by
  intro k
  induction k with
  | zero =>
    intro i G env hi h0 h3 h5 h6 h7 h8
    refine li_go hm l4_0.eq_1 ?_
    have e : i = vs.length := by omega
    subst e
    have e : vs.reverse.take vs.length = vs.reverse := List.take_of_length_le (by simp)
    rw [e]
    simp -implicitDefEqProofs [h0, h3, h5, h6, h7, h8]
    refine hexit _ _ ?_ ?_ ?_ ?_ ?_ <;> simp [h0, h3, h5, h6, h7]
  | succ k ih =>
    intro i G env hi h0 h3 h5 h6 h7 h8
    refine li_go hm l4_0.eq_1 ?_
    have hlt : k < vs.length := by omega
    have hlt' : (k : Int) < vs.length := by omega
    have e8 : ((k + 1 : Nat) : Int) - 1 = (k : Int) := by omega
    rw [e8] at h8
    have hvk := hv vs[k] (List.getElem_mem hlt)
    have htk : vs.reverse.take (i + 1) = vs.reverse.take i ++ [vs[k]] := by
      rw [List.take_succ_eq_append_getElem (by simp; omega)]
      congr 2
      rw [List.getElem_reverse]
      congr 1; omega
    have hw : ∀ h, (wds vs)[k]'h = st (B vs[k]) := fun h => by simp [wds]
    have l1 : (wds (vs.reverse.take i)).length = i := by simp; omega
    have l2 : (wds (qn (vs.reverse.take i))).length = i := by simp [qn_len]; omega
    generalize vs[k] = v at hvk htk hw
    simp -implicitDefEqProofs [h0, h3, h5, h6, h7, h8, hlt, hlt', hw, l1, l2, rp]
    refine ⟨by omega, by omega, by omega, by omega, by omega, by omega, by omega, by omega, by omega, ?_⟩
    have w1 : IntKind.i64.wrap ((k : Int) - 1) = (k : Int) - 1 := wrap_id (by omega) (by omega)
    refine LI.cong ?_ (ih (i + 1) (G ++ [⟨[st (B v)], 9, 1, true⟩, ⟨[st (B (113 :: v))], 9, 1, true⟩]) _ (by omega) ?_ ?_ ?_ ?_ ?_ ?_)
    · rw [htk]; simp [wds, qn]
    all_goals simp [rp, w1]
/-- The names of an expression are not longer than the memory. -/
theorem ok4 {vs : List (List UInt8)} {e : Ex} (hvl : vs.length < 4611686018427387904) (hv : ∀ v ∈ vs, v.length ≤ 140737488355328) (hlim : e.lim) (hfew : sizE e 120 ≤ 120 → e.few ∧ e.hgt ≤ 100000) :
    Ok Tryd.prog 4 [.slc (wds vs) vs.length, e.v] H (.ret (bl true)) H := by
  have h9 := fun H => ok9 e hlim H 120 (by decide) (by decide)
  refine ok_fn hm Tryd.func4 c4 (by simp) fun hcl => ?_
  have hat : ∃ op n nm l p, e = .mk op n nm l p := by cases e; exact ⟨_, _, _, _, _, rfl⟩
  by_cases hbig : 20 < vs.length
  · obtain ⟨op, n, nm, l, p, rfl⟩ := hat
    have hb1 : (20 : Int) < vs.length := by omega
    simp -implicitDefEqProofs [i4, r4, Ex.v, Ex.c]
    refine call_go ok3 ?_
    simp -implicitDefEqProofs [hbig, hb1]
    refine callq_st (r := i64 0) (fun h => by cases h) ?_
    simp -implicitDefEqProofs [hbig, hb1]
    exact cv_fz 2 hcl rfl rfl
  · obtain ⟨op, n, nm, l, p, rfl⟩ := hat
    have hb1 : ¬ (20 : Int) < vs.length := by omega
    have hrn : ∀ ws : List (List UInt8), (∀ x, x ∈ ws ↔ x ∈ vs) → tyE ws (.mk op n nm l p) = tyE vs (.mk op n nm l p) := fun ws hws => tyE_mem hws _
    have h10 : (sizE (.mk op n nm l p) 120 ≤ 120) → ∀ (ws : List (List UInt8)) (H : List AO) (x : SV), IsS H x ws → ws.length ≤ 20 → Ok Tryd.prog 10 [x, (Ex.mk op n nm l p).v] H (.ret (.tup [i64 (tyE ws (.mk op n nm l p)).1, fltV (tyE ws (.mk op n nm l p)).2.1 (tyE ws (.mk op n nm l p)).2.2])) H := fun hz ws H x hx hw => ok10x hx (hfew hz).2 (by omega)
    have h10r : (sizE (.mk op n nm l p) 120 ≤ 120) → ∀ (ws : List (List UInt8)) (H : List AO) (x : SV), IsS H x ws → ws.length ≤ 20 → Ok Tryd.prog 10 [x, (rnE (.mk op n nm l p)).v] H (.ret (.tup [i64 (tyE ws (rnE (.mk op n nm l p))).1, fltV (tyE ws (rnE (.mk op n nm l p))).2.1 (tyE ws (rnE (.mk op n nm l p))).2.2])) H := fun hz ws H x hx hw => ok10x hx (by rw [rnE_hgt]; exact (hfew hz).2) (by omega)
    have h11 : (sizE (.mk op n nm l p) 120 ≤ 120) → ∀ H : List AO, Ok Tryd.prog 11 [(Ex.mk op n nm l p).v] H (.ret (rnE (.mk op n nm l p)).v) H := fun hz H => ok11 _ (hfew hz).1 H
    have hq := tyE_rn vs.reverse (.mk op n nm l p)
    rw [hrn vs.reverse (fun x => by simp)] at hq
    have hr2 := hrn vs.reverse (fun x => by simp)
    generalize hz : sizE (.mk op n nm l p) 120 = z at h9 h10 h10r h11
    generalize hr : rnE (.mk op n nm l p) = f at h10r h11 hq
    have hbd := sizE_bd (.mk op n nm l p) 120
    rw [hz] at hbd
    simp only [Ex.v, Ex.c] at h9 h10 h11
    have hfat : ∃ a b c d e, f = .mk a b c d e := by cases f; exact ⟨_, _, _, _, _, rfl⟩
    obtain ⟨ra, rb, rc, rd, re, rfl⟩ := hfat
    simp only [Ex.v, Ex.c] at h10r
    simp -implicitDefEqProofs [i4, r4, Ex.v, Ex.c]
    refine call_go ok3 ?_
    simp -implicitDefEqProofs [hbig, hb1]
    refine callq_st (r := i64 z) (fun _ => h9 _) ?_
    by_cases hzz : 120 < z
    · simp -implicitDefEqProofs [hbig, hb1, hzz]
      exact cv_fz 2 hcl rfl rfl
    · simp -implicitDefEqProofs [hbig, hb1, hzz]
      have hz2 : z ≤ 120 := by omega
      have hvl2 : vs.length ≤ 20 := by omega
      have a1 := fun H => h10 hz2 vs H _ (IsS.slc H vs) hvl2
      have a2 := fun H x hx => h10 hz2 vs.reverse H x hx (by simpa using hvl2)
      have a3 := fun H x hx => h10r hz2 (qn vs.reverse) H x hx (by simpa [qn] using hvl2)
      have a4 := h11 hz2
      have hq' : tyE (qn vs.reverse) (Ex.mk ra rb rc rd re) = tyE vs (Ex.mk op n nm l p) := hq
      rw [hr2] at a2
      rw [hq'] at a3
      clear h10 h10r h11 hq hq' hr2 hrn hr
      generalize tyE vs (Ex.mk op n nm l p) = ty at a1 a2 a3
      obtain ⟨tk, te, tp⟩ := ty
      simp only [Ex.c] at a4
      have w0 : IntKind.i64.wrap ((vs.length : Int) - 1) = (vs.length : Int) - 1 := wrap_id (by omega) (by omega)
      refine LI.cong (H' := H ++ ⟨[i64 op, i64 n, st (B nm), .slc (Ex.cL l) l.length, i64 p], 36, 0, true⟩ :: ⟨wds (vs.reverse.take 0), 9, 0, true⟩ :: ⟨wds (qn (vs.reverse.take 0)), 9, 0, true⟩ :: []) (by simp [wds, qn]) ?_
      refine loop4 hvl2 hv (x5 := bl true) (fun env G h0 h3 h5 h6 h7 => ?_) vs.length 0 [] _ (by omega) ?_ ?_ ?_ ?_ ?_ ?_
      · simp -implicitDefEqProofs [h0, h3, h5, h6, h7, rp]
        refine call_go (a1 _) ?_
        simp -implicitDefEqProofs [h0, h3, h5, h6, h7, rp, fltV]
        refine call_go (a2 _ _ (IsS.own1 (k := 1) (T := 9) rfl (by simp))) ?_
        simp -implicitDefEqProofs [h0, h3, h5, h6, h7, rp, fltV]
        refine call_go (a4 _) ?_
        simp -implicitDefEqProofs [h0, h3, h5, h6, h7, rp, fltV]
        refine call_go (a3 _ _ (IsS.own1 (k := 2) (T := 9) rfl (by simp [qn]))) ?_
        simp -implicitDefEqProofs [h0, h3, h5, h6, h7, rp, fltV]
        exact cv_fz 2 hcl rfl rfl
      all_goals simp [rp, w0]
end
end Go.Proofs.YthmdmnfojbnobaaDoor

/- E25 -/
namespace Go.Proofs.YthmdmnfojbnobaaDoor
open Go.Ab
mutual
/-- No name is longer than the memory. -/
def Ex.nmB : Ex → Prop
  | .mk _ _ nm l _ => nm.length ≤ 140737488355328 ∧ Ex.nmBL l
def Ex.nmBL : List Ex → Prop
  | [] => True
  | e :: r => e.nmB ∧ Ex.nmBL r
end
mutual
theorem fewE : ∀ (e : Ex) (m : Int), m ≤ 1000 → sizE e m ≤ m → e.nmB → e.few ∧ (e.hgt : Int) ≤ m
  | .mk op n nm l p, m, h1, h2, h3 => by
    unfold sizE at h2
    unfold Ex.nmB at h3
    obtain ⟨a1, a2, a3⟩ := fewLs l m 1 (by omega) h1 h2 h3.2
    unfold Ex.few Ex.hgt
    refine ⟨⟨⟨h3.1, by omega⟩, a1⟩, by omega⟩
theorem fewLs : ∀ (l : List Ex) (m n : Int), 1 ≤ n → m ≤ 1000 → sizL l m n ≤ m → Ex.nmBL l → Ex.fewL l ∧ (l.length : Int) + n ≤ m ∧ (Ex.hgtL l : Int) + n ≤ m
  | [], m, n, _, _, h, _ => by
    unfold sizL at h
    refine ⟨by unfold Ex.fewL; trivial, by simpa using h, by unfold Ex.hgtL; simpa using h⟩
  | e :: r, m, n, h0, h1, h, hb => by
    unfold sizL at h
    unfold Ex.nmBL at hb
    by_cases hn : n ≤ m
    · rw [if_pos hn] at h
      have b1 := sizE_bd e (m - n)
      have b2 := sizL_bd r m (n + sizE e (m - n))
      obtain ⟨a1, a2⟩ := fewE e (m - n) (by omega) (by omega) hb.1
      obtain ⟨c1, c2, c3⟩ := fewLs r m (n + sizE e (m - n)) (by omega) h1 h hb.2
      unfold Ex.fewL Ex.hgtL
      refine ⟨⟨a1, c1⟩, by simp only [List.length_cons]; omega, by omega⟩
    · rw [if_neg hn] at h; omega
end
end Go.Proofs.YthmdmnfojbnobaaDoor

/- E26 -/
namespace Go.Proofs.YthmdmnfojbnobaaDoor
open Go Go.Ab
noncomputable def fieldT (t : TypeId) : Option (List TypeId) := match Tryd.prog.underlying t with
  | some (.struct fs) => some (fs.toList.map (·.type))
  | _ => none
theorem f36 : fieldT 36 = some [3, 3, 9, 34, 3] := by kernel_rfl
theorem u3 : Tryd.prog.underlying 3 = some (.int .i64) := by kernel_rfl
theorem u9 : Tryd.prog.underlying 9 = some .string := by kernel_rfl
theorem u33 : Tryd.prog.underlying 33 = some (.slice 9) := by kernel_rfl
theorem u34 : Tryd.prog.underlying 34 = some (.slice 36) := by kernel_rfl
theorem int_of {d : Dt} (h : d.ty Tryd.prog 3) : ∃ n, d = .int .i64 n := by
  cases d with
  | int k n => have := h.1; rw [u3] at this; cases this; exact ⟨n, rfl⟩
  | bool b => have h : Tryd.prog.underlying 3 = _ := h; rw [u3] at h; cases h
  | str s => have h := h.1; rw [u3] at h; cases h
  | sl l => obtain ⟨e, h, _⟩ := h; rw [u3] at h; cases h
  | agg l => obtain ⟨e, h, _⟩ := h; rw [u3] at h; cases h
theorem str_of {d : Dt} (h : d.ty Tryd.prog 9) : ∃ s, d = .str s ∧ s.size ≤ reachBytes := by
  cases d with
  | int k n => have := h.1; rw [u9] at this; cases this
  | bool b => have h : Tryd.prog.underlying 9 = _ := h; rw [u9] at h; cases h
  | str s => exact ⟨s, rfl, h.2⟩
  | sl l => obtain ⟨e, h, _⟩ := h; rw [u9] at h; cases h
  | agg l => obtain ⟨e, h, _⟩ := h; rw [u9] at h; cases h
theorem sl_of {d : Dt} {t e : TypeId} (ht : Tryd.prog.underlying t = some (.slice e)) (h : d.ty Tryd.prog t) : ∃ l, d = .sl l ∧ l.length ≤ reachBytes ∧ ∀ x ∈ l, x.ty Tryd.prog e := by
  cases d with
  | int k n => have := h.1; rw [ht] at this; cases this
  | bool b => have h : Tryd.prog.underlying t = _ := h; rw [ht] at h; cases h
  | str s => have h := h.1; rw [ht] at h; cases h
  | sl l => obtain ⟨e', h, h2, h3⟩ := h; rw [ht] at h; cases h; exact ⟨l, rfl, h2, tyA_iff.1 h3⟩
  | agg l => obtain ⟨e, h, _⟩ := h; rw [ht] at h; cases h
theorem st_of {d : Dt} {t : TypeId} {ts : List TypeId} (ht : fieldT t = some ts) (h : d.ty Tryd.prog t) : ∃ l, d = .agg l ∧ Dt.tyL Tryd.prog l ts := by
  unfold fieldT at ht
  cases d with
  | int k n => have := h.1; rw [this] at ht; cases ht
  | bool b => have h : Tryd.prog.underlying t = _ := h; rw [h] at ht; cases ht
  | str s => have h := h.1; rw [h] at ht; cases ht
  | sl l => obtain ⟨e', h, h2, h3⟩ := h; rw [h] at ht; cases ht
  | agg l => obtain ⟨e, h, h2⟩ := h; rw [h] at ht; cases ht; exact ⟨l, rfl, h2⟩
theorem ex_of : ∀ (n : Nat) (d : Dt), SizeOf.sizeOf d < n → d.ty Tryd.prog 36 → ∃ e : Ex, d.cells = e.c ∧ d.sv = e.v ∧ e.lim ∧ e.nmB := by
  intro n
  induction n with
  | zero => intro d h; omega
  | succ n ih =>
    intro d hs h
    obtain ⟨l, rfl, hl⟩ := st_of f36 h
    match l, hl with
    | [d1, d2, d3, d4, d5], hl =>
      obtain ⟨h1, h2, h3, h4, h5, _⟩ := hl
      obtain ⟨op, rfl⟩ := int_of h1
      obtain ⟨m, rfl⟩ := int_of h2
      obtain ⟨s, rfl, hsz⟩ := str_of h3
      obtain ⟨zs, rfl, hlen, has⟩ := sl_of u34 h4
      obtain ⟨p, rfl⟩ := int_of h5
      have key : ∀ zs2 : List Dt, SizeOf.sizeOf zs2 ≤ SizeOf.sizeOf zs → (∀ x ∈ zs2, x.ty Tryd.prog 36) → ∃ es : List Ex, Dt.cellsL zs2 = Ex.cL es ∧ es.length = zs2.length ∧ Ex.limL es ∧ Ex.nmBL es := by
        intro zs2
        induction zs2 with
        | nil => intro _ _; exact ⟨[], rfl, rfl, by unfold Ex.limL; trivial, by unfold Ex.nmBL; trivial⟩
        | cons x r ihr =>
          intro hsz2 hty
          have e1 : SizeOf.sizeOf (x :: r) = 1 + SizeOf.sizeOf x + SizeOf.sizeOf r := rfl
          obtain ⟨es, g1, g2, g3, g4⟩ := ihr (by omega) (fun y hy => hty y (by simp [hy]))
          obtain ⟨e, k1, _, k3, k4⟩ := ih x (by
            simp at hs
            omega) (hty x (by simp))
          exact ⟨e :: es, by simp only [Dt.cellsL, Ex.cL, k1, g1], by simp [g2], by unfold Ex.limL; exact ⟨k3, g3⟩, by unfold Ex.nmBL; exact ⟨k4, g4⟩⟩
      obtain ⟨es, g1, g2, g3, g4⟩ := key zs (Nat.le_refl _) has
      refine ⟨.mk op m s.data.toList es p, ?_, ?_, ?_, ?_⟩
      · simp only [Dt.cells, Dt.cellsL, g1, g2, Ex.c]
        rw [← B_of s]; rfl
      · simp only [Dt.sv, Dt.cells, Dt.cellsL, g1, g2, Ex.v, Ex.c]
        rw [← B_of s]; rfl
      · unfold Ex.lim
        refine ⟨?_, g3⟩
        rw [g2]; unfold reachBytes at hlen; omega
      · unfold Ex.nmB
        refine ⟨?_, g4⟩
        have : s.data.toList.length = s.size := Array.length_toList
        rw [this]; unfold reachBytes at hsz; omega
theorem wds_of : ∀ {zs : List Dt}, (∀ x ∈ zs, x.ty Tryd.prog 9) → ∃ vs : List (List UInt8), Dt.cellsL zs = wds vs ∧ vs.length = zs.length ∧ ∀ v ∈ vs, v.length ≤ 140737488355328
  | [], _ => ⟨[], rfl, rfl, fun v h => by cases h⟩
  | x :: r, h => by
    obtain ⟨vs, g1, g2, g3⟩ := wds_of (zs := r) (fun y hy => h y (by simp [hy]))
    obtain ⟨s, rfl, hsz⟩ := str_of (h x (by simp))
    refine ⟨s.data.toList :: vs, ?_, by simp [g2], ?_⟩
    · simp only [Dt.cellsL, Dt.cells, g1, wds, List.map_cons]
      rw [← B_of s]; rfl
    · intro v hv
      rw [List.mem_cons] at hv
      rcases hv with rfl | hv
      · have : s.data.toList.length = s.size := Array.length_toList
        rw [this]; unfold reachBytes at hsz; omega
      · exact g3 v hv
theorem law4 : ∀ dts, Dt.tyL Tryd.prog dts [33, 36] → Ok Tryd.prog 4 (dts.map Dt.sv) [] (.ret (bl true)) [] := by
  intro dts h
  match dts, h with
  | [d1, d2], h =>
    obtain ⟨h1, h2, _⟩ := h
    obtain ⟨zs, rfl, hlen, hz⟩ := sl_of u33 h1
    obtain ⟨vs, g1, g2, g3⟩ := wds_of hz
    obtain ⟨e, _, k2, k3, k4⟩ := ex_of _ d2 (Nat.lt_succ_self _) h2
    have e1 : (Dt.sl zs).sv = .slc (wds vs) vs.length := by simp only [Dt.sv, Dt.cells, g1, g2]; rfl
    simp only [List.map_cons, List.map_nil, e1, k2]
    refine ok4 (by rw [g2]; unfold reachBytes at hlen; omega) g3 k3 fun hs => ?_
    obtain ⟨q1, q2⟩ := fewE e 120 (by decide) hs k4
    exact ⟨q1, by omega⟩
end Go.Proofs.YthmdmnfojbnobaaDoor

