/-
  Steps of the proof: contracts of functions and plain facts that the statement rests on.
-/
import Derived.Test.YthmdmnfojbnobaaGreatDoorPart2
import Derived.Test.YthmdmnfojbnobaaGreatDoorCore3
import Derived.LaidMore
import Derived.OpenShut
import Derived.Stop.Joined
import Derived.LaidHandle
import Derived.JoinedCond
import Derived.JoinedAt
import Derived.Conc.Holds
import Derived.SevenTiedAt
set_option linter.all false
namespace Go.Proofs.YthmdmnfojbnobaaGreatDoor
open Go.Ab
def wantL (vs : List (List UInt8)) (k : Int) : List Ex -> Int × Int
 | [] => (0, 0)
 | e :: r => if (wantF vs e k).1 ≠ 0 then wantF vs e k else wantL vs k r
section
variable {H : List AO} {vs : List (List UInt8)} {rest : List SV} {j : Nat} {T : TypeId}
theorem loop54_0 {l : List Ex} (hl : l.length < 4611686018427387904) (hh : ∀ e ∈ l, e.hgt ≤ 100000) (ho : H[j]? = some (tyO (varsM vs) opsM rest T)) {N : Nat} {K : XE -> Env -> List AO -> Prop} {A : AO} {res : Int × Int} {x0 : SV}
 (hret : res.1 ≠ 0 -> ∀ env G, env.get 4 = errV res.1 res.2 -> K .ret env (H ++ A :: G)) (hexit : res = (0, 0) -> ∀ env G, env.get 0 = rp j -> env.get 3 = x0 -> K (.exit 0) env (H ++ A :: G)) :
 ∀ (n i : Nat) (G : List AO) (env : Env), i + n = l.length -> wantL vs 1 (l.drop i) = res -> env.get 0 = rp j -> env.get 3 = x0 -> env.get 47 = exS l -> env.get 48 = i64 l.length -> env.get 49 = i64 i →
  LI Tryz.prog N drawB l54_0 env (H ++ A :: G) K := by
 intro n
 induction n with
 | zero =>
  intro i G env hi hr h0 hx0 hs hn hii
  refine li_go hm l54_0.eq_1 ?_
  have e : i = l.length := by omega
  subst e
  rw [List.drop_length] at hr
  simp -implicitDefEqProofs [h0, hx0, hs, hn, hii]
  refine hexit hr.symm _ _ ?_ ?_ <;> simp [h0, hx0]
 | succ n ih =>
  intro i G env hi hr h0 hx0 hs hn hii
  refine li_go hm l54_0.eq_1 ?_
  have hlt : i < l.length := by omega
  have hlt' : (i : Int) < l.length := by omega
  rw [List.drop_eq_getElem_cons hlt, wantL] at hr
  have hg := exL_get hlt
  have hlen := exL_len l
  have h46 := fun L => ok83 (H := H ++ L) (T := T) (rest := rest) (hh l[i] (List.getElem_mem hlt)) (get_app_l ho L) 1
  generalize l[i] = e at hr hg h46
  simp -implicitDefEqProofs [h0, hx0, hs, hn, hii, exS, hlt, hlt', hg, hlen, rp]
  refine ⟨by omega, callq_go (fun _ => h46 _) ?_⟩
  generalize wantF vs e 1 = w at hr ⊢
  by_cases hw : w.1 = 0
  · rw [if_neg (by simpa using hw)] at hr
    have hev : errV w.1 w.2 = .val .nilIface := by rw [hw]; rfl
    rw [hev]
    simp -implicitDefEqProofs [h0, hx0, hs, hn, hii]
    refine ih (i + 1) _ _ (by omega) hr ?_ ?_ ?_ ?_ ?_
    all_goals simp [h0, hx0, hs, hn, exS, rp, wrap_suc (show i < 9223372036854775807 by omega)]
  · rw [if_pos hw] at hr
    subst hr
    have hev := errV_of hw w.2
    rw [hev]
    simp -implicitDefEqProofs [h0, hx0, hs, hn, hii]
    refine hret hw _ _ ?_
    simp [hev]
theorem loop56_0 {l : List Ex} (hl : l.length < 4611686018427387904) (hh : ∀ e ∈ l, e.hgt ≤ 100000) (ho : H[j]? = some (tyO (varsM vs) opsM rest T)) {N : Nat} {K : XE -> Env -> List AO -> Prop} {A : AO} {res : Int × Int}
 (hret : res.1 ≠ 0 -> ∀ env G, env.get 4 = errV res.1 res.2 -> K .ret env (H ++ A :: G)) (hexit : res = (0, 0) -> ∀ env G, env.get 0 = rp j -> K (.exit 0) env (H ++ A :: G)) :
 ∀ (n i : Nat) (G : List AO) (env : Env), i + n = l.length -> wantL vs 1 (l.drop i) = res -> env.get 0 = rp j -> env.get 21 = exS l -> env.get 22 = i64 l.length -> env.get 23 = i64 i →
  LI Tryz.prog N drawB l56_0 env (H ++ A :: G) K := by
 intro n
 induction n with
 | zero =>
  intro i G env hi hr h0 hs hn hii
  refine li_go hm l56_0.eq_1 ?_
  have e : i = l.length := by omega
  subst e
  rw [List.drop_length] at hr
  simp -implicitDefEqProofs [h0, hs, hn, hii]
  refine hexit hr.symm _ _ ?_ <;> simp [h0]
 | succ n ih =>
  intro i G env hi hr h0 hs hn hii
  refine li_go hm l56_0.eq_1 ?_
  have hlt : i < l.length := by omega
  have hlt' : (i : Int) < l.length := by omega
  rw [List.drop_eq_getElem_cons hlt, wantL] at hr
  have hg := exL_get hlt
  have hlen := exL_len l
  have h46 := fun L => ok83 (H := H ++ L) (T := T) (rest := rest) (hh l[i] (List.getElem_mem hlt)) (get_app_l ho L) 1
  generalize l[i] = e at hr hg h46
  simp -implicitDefEqProofs [h0, hs, hn, hii, exS, hlt, hlt', hg, hlen, rp]
  refine ⟨by omega, callq_go (fun _ => h46 _) ?_⟩
  generalize wantF vs e 1 = w at hr ⊢
  by_cases hw : w.1 = 0
  · rw [if_neg (by simpa using hw)] at hr
    have hev : errV w.1 w.2 = .val .nilIface := by rw [hw]; rfl
    rw [hev]
    simp -implicitDefEqProofs [h0, hs, hn, hii]
    refine ih (i + 1) _ _ (by omega) hr ?_ ?_ ?_ ?_
    all_goals simp [h0, hs, hn, exS, rp, wrap_suc (show i < 9223372036854775807 by omega)]
  · rw [if_pos hw] at hr
    subst hr
    have hev := errV_of hw w.2
    rw [hev]
    simp -implicitDefEqProofs [h0, hs, hn, hii]
    refine hret hw _ _ ?_
    simp [hev]
theorem loop84_0 {l : List Ex} (hl : l.length < 4611686018427387904) (hh : ∀ e ∈ l, e.hgt ≤ 100000) (ho : H[j]? = some (tyO (varsM vs) opsM rest T)) {N : Nat} {K : XE -> Env -> List AO -> Prop} {A : AO} {res : Int × Int} {x0 x1 : SV}
 (hret : res.1 ≠ 0 -> ∀ env G, env.get 6 = errV res.1 res.2 -> K .ret env (H ++ A :: G)) (hexit : res = (0, 0) -> ∀ env G, env.get 0 = rp j -> env.get 1 = x0 -> env.get 5 = x1 -> K (.exit 0) env (H ++ A :: G)) :
 ∀ (n i : Nat) (G : List AO) (env : Env), i + n = l.length -> wantL vs 2 (l.drop i) = res -> env.get 0 = rp j -> env.get 1 = x0 -> env.get 5 = x1 -> env.get 22 = exS l -> env.get 23 = i64 l.length -> env.get 24 = i64 i →
  LI Tryz.prog N drawB l84_0 env (H ++ A :: G) K := by
 intro n
 induction n with
 | zero =>
  intro i G env hi hr h0 hx0 hx1 hs hn hii
  refine li_go hm l84_0.eq_1 ?_
  have e : i = l.length := by omega
  subst e
  rw [List.drop_length] at hr
  simp -implicitDefEqProofs [h0, hx0, hx1, hs, hn, hii]
  refine hexit hr.symm _ _ ?_ ?_ ?_ <;> simp [h0, hx0, hx1]
 | succ n ih =>
  intro i G env hi hr h0 hx0 hx1 hs hn hii
  refine li_go hm l84_0.eq_1 ?_
  have hlt : i < l.length := by omega
  have hlt' : (i : Int) < l.length := by omega
  rw [List.drop_eq_getElem_cons hlt, wantL] at hr
  have hg := exL_get hlt
  have hlen := exL_len l
  have h46 := fun L => ok83 (H := H ++ L) (T := T) (rest := rest) (hh l[i] (List.getElem_mem hlt)) (get_app_l ho L) 2
  generalize l[i] = e at hr hg h46
  simp -implicitDefEqProofs [h0, hx0, hx1, hs, hn, hii, exS, hlt, hlt', hg, hlen, rp]
  refine ⟨by omega, callq_go (fun _ => h46 _) ?_⟩
  generalize wantF vs e 2 = w at hr ⊢
  by_cases hw : w.1 = 0
  · rw [if_neg (by simpa using hw)] at hr
    have hev : errV w.1 w.2 = .val .nilIface := by rw [hw]; rfl
    rw [hev]
    simp -implicitDefEqProofs [h0, hx0, hx1, hs, hn, hii]
    refine ih (i + 1) _ _ (by omega) hr ?_ ?_ ?_ ?_ ?_ ?_
    all_goals simp [h0, hx0, hx1, hs, hn, exS, rp, wrap_suc (show i < 9223372036854775807 by omega)]
  · rw [if_pos hw] at hr
    subst hr
    have hev := errV_of hw w.2
    rw [hev]
    simp -implicitDefEqProofs [h0, hx0, hx1, hs, hn, hii]
    refine hret hw _ _ ?_
    simp [hev]
end
def endF (vs : List (List UInt8)) (pl : Int) (x : StageP) : Int × Int := if (x.pays.length : Int) ≠ pl then (3, x.p) else wantL vs 1 x.pays
section
variable {H : List AO} {r : RulesP} {j : Nat}
theorem ok56 (ho : H[j]? = some (cO r)) {x : StageP} (hl : x.pays.length < 4611686018427387904) (hh : ∀ e ∈ x.pays, e.hgt ≤ 100000) : Ok Tryz.prog 56 [rp j, stageV x] H (.ret (errV (endF (namesOf r) r.pl x).1 (endF (namesOf r) r.pl x).2)) H := by
 have hj := getElem?_lt ho
 have e1 := fun L => oc_app ho rfl rfl L
 simp only [cO, tyO] at e1
 generalize hw : endF (namesOf r) r.pl x = w
 unfold endF at hw
 refine ok_fn hm Tryz.func56 c56 (by simp [rp]) fun hcl => ?_
 by_cases hp : (x.pays.length : Int) = r.pl
 · rw [if_neg (by simpa using hp)] at hw
   have hp' : decide ((x.pays.length : Int) = r.pl) = true := by simpa using hp
   simp -implicitDefEqProofs [i56, r56, rp, e1, stageV, StageP.c, exS, hp']
   refine LI.cong (H' := H ++ ⟨x.c, 45, 0, true⟩ :: []) (by simp [exS, StageP.c]) ?_
   refine loop56_0 (vs := namesOf r) (T := 68) hl hh ho (res := w) (fun h1 env G h4 => ?_) (fun h1 env G h0 => ?_) x.pays.length 0 [] _ (by omega) hw ?_ ?_ ?_ ?_
   · simp -implicitDefEqProofs [h4]
     refine cv_fz 3 hcl rfl ?_
     simp
   · rw [h1]
     simp -implicitDefEqProofs
     refine cv_fz 3 hcl rfl ?_
     simp [errV_0]
   all_goals simp [rp, exS]
 · rw [if_pos hp] at hw
   have hp' : decide ((x.pays.length : Int) = r.pl) = false := by simpa using hp
   subst hw
   simp -implicitDefEqProofs [i56, r56, rp, e1, stageV, StageP.c, exS, hp']
   refine call_go (ok53 (e := 3) (by decide) x.p) ?_
   simp -implicitDefEqProofs
   refine cv_fz 3 hcl rfl ?_
   simp
end
end Go.Proofs.YthmdmnfojbnobaaGreatDoor
namespace Go.Proofs.YthmdmnfojbnobaaGreatDoor
open Go.Ab
def seenF (pl p : Int) : Int -> List Int -> Int × Int
 | _, [] => (0, 0)
 | q, n :: r => if n < 0 ∨ pl ≤ n then (2, p) else if n ≤ q then (9, p) else seenF pl p n r
def dealF (vs : List (List UInt8)) (pl : Int) (x : StageP) : Int × Int :=
 if x.nm ∉ vs then (7, x.p) else if x.lo < -1000000000 ∨ 1000000000 < x.lo ∨ x.hi < x.lo ∨ x.lo + 60 ≤ x.hi then (2, x.p) else if (wantL vs 1 x.wt).1 ≠ 0 then wantL vs 1 x.wt else seenF pl x.p (-1) x.seen
section
variable {H : List AO} {r : RulesP} {j : Nat}
theorem loop54_1 {x : StageP} (hl : x.seen.length < 4611686018427387904) (ho : H[j]? = some (cO r)) {N : Nat} {K : XE -> Env -> List AO -> Prop} {res : Int × Int}
 (hret : res.1 ≠ 0 -> ∀ env G, env.get 4 = errV res.1 res.2 -> K .ret env (H ++ G)) (hexit : res = (0, 0) -> ∀ env G, K (.exit 2) env (H ++ G)) :
 ∀ (n i : Nat) (q : Int) (G : List AO) (env : Env), i + n = x.seen.length -> seenF r.pl x.p q (x.seen.drop i) = res -> q = (if i = 0 then -1 else x.seen.getD (i - 1) 0) -> env.get 0 = rp j -> env.get 3 = rp H.length -> env.get 63 = .slc (ints x.seen) x.seen.length -> env.get 64 = i64 x.seen.length -> env.get 65 = i64 i →
  LI Tryz.prog N drawB l54_1 env (H ++ ⟨x.c, 45, 0, true⟩ :: G) K := by
 have hj := getElem?_lt ho
 have e1 := fun L => oc_app ho rfl rfl L
 simp only [cO, tyO] at e1
 intro n
 induction n with
 | zero =>
  intro i q G env hi hr hq h0 h3 hs hn hii
  refine li_go hm l54_1.eq_1 ?_
  have e : i = x.seen.length := by omega
  subst e
  rw [List.drop_length] at hr
  simp -implicitDefEqProofs [h0, h3, hs, hn, hii]
  exact hexit hr.symm _ _
 | succ n ih =>
  intro i q G env hi hr hq h0 h3 hs hn hii
  refine li_go hm l54_1.eq_1 ?_
  have hlt : i < x.seen.length := by omega
  have hlt' : (i : Int) < x.seen.length := by omega
  rw [List.drop_eq_getElem_cons hlt, seenF] at hr
  obtain ⟨v, hv⟩ : ∃ v, x.seen[i] = v := ⟨_, rfl⟩
  rw [hv] at hr
  by_cases h1 : v < 0
  · rw [if_pos (.inl h1)] at hr
    subst hr
    simp -implicitDefEqProofs [h0, h3, hs, hn, hii, hlt, hlt', hv, h1, rp, e1, StageP.c, exS]
    refine ⟨by omega, call_go (ok53 (e := 2) (by decide) x.p) ?_⟩
    simp -implicitDefEqProofs
    refine hret (show ¬ (2 : Int) = 0 by decide) _ _ ?_
    simp
  by_cases h2 : r.pl ≤ v
  · rw [if_pos (.inr h2)] at hr
    subst hr
    simp -implicitDefEqProofs [h0, h3, hs, hn, hii, hlt, hlt', hv, h1, h2, rp, e1, StageP.c, exS]
    refine ⟨by omega, call_go (ok53 (e := 2) (by decide) x.p) ?_⟩
    simp -implicitDefEqProofs
    refine hret (show ¬ (2 : Int) = 0 by decide) _ _ ?_
    simp
  rw [if_neg (by omega)] at hr
  by_cases hz : i = 0
  · rw [if_pos hz] at hq
    rw [if_neg (by omega)] at hr
    have hp : ¬ (0 : Int) < (i : Int) := by omega
    have hp' : ¬ 0 < i := by omega
    simp -implicitDefEqProofs [h0, h3, hs, hn, hii, hlt, hlt', hv, h1, h2, rp, e1, StageP.c, exS, hp, hp']
    refine ⟨by omega, ?_⟩
    refine LI.cong ?_ (ih (i + 1) v G _ (by omega) hr ?_ ?_ ?_ ?_ ?_ ?_)
    · simp [StageP.c, exS]
    all_goals simp [h0, h3, hs, hn, rp, List.getD, hlt, hv, wrap_suc (show i < 9223372036854775807 by omega)]
  · rw [if_neg hz] at hq
    obtain ⟨k, hik⟩ : ∃ k, i - 1 = k := ⟨_, rfl⟩
    rw [hik] at hq
    have hk : k < x.seen.length := by omega
    have hk' : (k : Int) < x.seen.length := by omega
    obtain ⟨u, hu⟩ : ∃ u, x.seen[k] = u := ⟨_, rfl⟩
    have hqu : q = u := by simpa [List.getD, hk, hu] using hq
    subst hqu
    have w1 : IntKind.i64.wrap ((i : Int) - 1) = (k : Int) := by rw [wrap_id (by omega) (by omega)]; omega
    have hp : (0 : Int) < (i : Int) := by omega
    have hp' : 0 < i := by omega
    by_cases h4 : v ≤ q
    · rw [if_pos h4] at hr
      subst hr
      simp -implicitDefEqProofs [h0, h3, hs, hn, hii, hlt, hlt', hv, h1, h2, rp, e1, StageP.c, exS, hp, hp', w1, hk, hk', hu, h4]
      refine ⟨by omega, by omega, call_go (ok53 (e := 9) (by decide) x.p) ?_⟩
      simp -implicitDefEqProofs
      refine hret (show ¬ (9 : Int) = 0 by decide) _ _ ?_
      simp
    · rw [if_neg h4] at hr
      simp -implicitDefEqProofs [h0, h3, hs, hn, hii, hlt, hlt', hv, h1, h2, rp, e1, StageP.c, exS, hp, hp', w1, hk, hk', hu, h4]
      refine ⟨by omega, by omega, ?_⟩
      refine LI.cong ?_ (ih (i + 1) v G _ (by omega) hr ?_ ?_ ?_ ?_ ?_ ?_)
      · simp [StageP.c, exS]
      all_goals simp [h0, h3, hs, hn, rp, List.getD, hlt, hv, wrap_suc (show i < 9223372036854775807 by omega)]
theorem ok54 (ho : H[j]? = some (cO r)) {x : StageP} (hl : x.wt.length < 4611686018427387904) (hl2 : x.seen.length < 4611686018427387904) (hh : ∀ e ∈ x.wt, e.hgt ≤ 100000) : Ok Tryz.prog 54 [rp j, stageV x] H (.ret (errV (dealF (namesOf r) r.pl x).1 (dealF (namesOf r) r.pl x).2)) H := by
 have hj := getElem?_lt ho
 have e1 := fun L => oc_app ho rfl rfl L
 have h44 := fun L => ok82 (H := H ++ L) (T := 68) (get_app_l ho L) x.nm
 simp only [cO, tyO] at e1
 generalize hw : dealF (namesOf r) r.pl x = w
 unfold dealF at hw
 refine ok_fn hm Tryz.func54 c54 (by simp [rp]) fun hcl => ?_
 simp -implicitDefEqProofs [i54, r54, rp, e1, stageV, StageP.c, exS]
 refine callq_go (fun _ => h44 _) ?_
 by_cases h1 : x.nm ∈ namesOf r
 · rw [if_neg (by simpa using h1)] at hw
   by_cases a1 : x.lo < -1000000000
   · rw [if_pos (.inl a1)] at hw
     subst hw
     simp -implicitDefEqProofs [h1, a1, e1, stageV, StageP.c, exS]
     refine call_go (ok53 (e := 2) (by decide) x.p) ?_
     simp -implicitDefEqProofs
     refine cv_fz 3 hcl rfl ?_
     simp
   by_cases a2 : 1000000000 < x.lo
   · rw [if_pos (.inr (.inl a2))] at hw
     subst hw
     simp -implicitDefEqProofs [h1, a1, a2, e1, stageV, StageP.c, exS]
     refine call_go (ok53 (e := 2) (by decide) x.p) ?_
     simp -implicitDefEqProofs
     refine cv_fz 3 hcl rfl ?_
     simp
   by_cases a3 : x.hi < x.lo
   · rw [if_pos (.inr (.inr (.inl a3)))] at hw
     subst hw
     simp -implicitDefEqProofs [h1, a1, a2, a3, e1, stageV, StageP.c, exS]
     refine call_go (ok53 (e := 2) (by decide) x.p) ?_
     simp -implicitDefEqProofs
     refine cv_fz 3 hcl rfl ?_
     simp
   have w6 : IntKind.i64.wrap (x.lo + 60) = x.lo + 60 := wrap_id (by omega) (by omega)
   by_cases a4 : x.lo + 60 ≤ x.hi
   · rw [if_pos (.inr (.inr (.inr a4)))] at hw
     subst hw
     simp -implicitDefEqProofs [h1, a1, a2, a3, w6, a4, e1, stageV, StageP.c, exS]
     refine call_go (ok53 (e := 2) (by decide) x.p) ?_
     simp -implicitDefEqProofs
     refine cv_fz 3 hcl rfl ?_
     simp
   rw [if_neg (by omega)] at hw
   simp -implicitDefEqProofs [h1, a1, a2, a3, w6, a4, e1, stageV, StageP.c, exS]
   refine LI.cong (H' := H ++ ⟨x.c, 45, 0, true⟩ :: []) (by simp [exS, StageP.c]) ?_
   refine loop54_0 (vs := namesOf r) (T := 68) (x0 := rp H.length) hl hh ho (res := wantL (namesOf r) 1 x.wt) (fun h1 env G h4 => ?_) (fun h1 env G h0 h3 => ?_) x.wt.length 0 [] _ (by omega) rfl ?_ ?_ ?_ ?_ ?_
   · rw [if_pos h1] at hw
     subst hw
     simp -implicitDefEqProofs [h4]
     refine cv_fz 3 hcl rfl ?_
     simp
   · rw [h1, if_neg (by simp)] at hw
     simp -implicitDefEqProofs [h0, h3, rp, StageP.c]
     refine LI.cong (H' := H ++ ⟨x.c, 45, 0, true⟩ :: G) (by simp [exS, StageP.c]) ?_
     refine loop54_1 hl2 ho (res := w) (fun h1 env G h4 => ?_) (fun h1 env G => ?_) x.seen.length 0 (-1) G _ (by omega) hw rfl ?_ ?_ ?_ ?_ ?_
     · simp -implicitDefEqProofs [h4]
       refine cv_fz 3 hcl rfl ?_
       simp
     · rw [h1]
       simp -implicitDefEqProofs
       refine cv_fz 3 hcl rfl ?_
       simp [errV_0]
     all_goals simp [h0, h3, rp]
   all_goals simp [rp, exS]
 · rw [if_pos h1] at hw
   subst hw
   simp -implicitDefEqProofs [h1, stageV, StageP.c, exS]
   refine call_go (ok53 (e := 7) (by decide) x.p) ?_
   simp -implicitDefEqProofs
   refine cv_fz 3 hcl rfl ?_
   simp
end
end Go.Proofs.YthmdmnfojbnobaaGreatDoor
namespace Go.Proofs.YthmdmnfojbnobaaGreatDoor
open Go.Ab
def setF (vs : List (List UInt8)) : List SetP -> Int × Int
 | [] => (0, 0)
 | s :: r => if s.nm ∉ vs then (7, s.p) else if (wantF vs s.e 1).1 ≠ 0 then wantF vs s.e 1 else setF vs r
def goF (stgs : List StageP) (i : Int) (a : ActP) : Int × Int :=
 if a.go = [] then (0, 0) else if findF stgs a.go < 0 then (7, a.p) else if findF stgs a.go ≤ i then (9, a.p) else (0, 0)
def actF (vs : List (List UInt8)) (stgs : List StageP) (i : Int) (a : ActP) : Int × Int :=
 if 1 < a.wh.length then (3, a.p) else if (wantL vs 2 a.wh).1 ≠ 0 then wantL vs 2 a.wh else if (setF vs a.sets).1 ≠ 0 then setF vs a.sets else goF stgs i a
theorem SetP.c_len7 (s : SetP) : s.c.length = 7 := by simp [SetP.c]
section
variable {H : List AO} {vs : List (List UInt8)} {rest : List SV} {r : RulesP} {j : Nat} {T : TypeId}
theorem loop84_1 {l : List SetP} (hl : l.length < 1099511627776) (hh : ∀ s ∈ l, s.e.hgt ≤ 100000) (ho : H[j]? = some (tyO (varsM vs) opsM rest T)) {N : Nat} {K : XE -> Env -> List AO -> Prop} {A : AO} {res : Int × Int} {x0 x1 : SV}
 (hret : res.1 ≠ 0 -> ∀ env G, env.get 6 = errV res.1 res.2 -> K .ret env (H ++ A :: G)) (hexit : res = (0, 0) -> ∀ env G, env.get 0 = rp j -> env.get 1 = x0 -> env.get 5 = x1 -> K (.exit 2) env (H ++ A :: G)) :
 ∀ (n i : Nat) (G : List AO) (env : Env), i + n = l.length -> setF vs (l.drop i) = res -> env.get 0 = rp j -> env.get 1 = x0 -> env.get 5 = x1 -> env.get 38 = .slc (rws SetP.c l) l.length -> env.get 39 = i64 l.length -> env.get 40 = i64 i →
  LI Tryz.prog N drawB l84_1 env (H ++ A :: G) K := by
 intro n
 induction n with
 | zero =>
  intro i G env hi hr h0 hx0 hx1 hs hn hii
  refine li_go hm l84_1.eq_1 ?_
  have e : i = l.length := by omega
  subst e
  rw [List.drop_length] at hr
  simp -implicitDefEqProofs [h0, hx0, hx1, hs, hn, hii]
  refine hexit hr.symm _ _ ?_ ?_ ?_ <;> simp [h0, hx0, hx1]
 | succ n ih =>
  intro i G env hi hr h0 hx0 hx1 hs hn hii
  refine li_go hm l84_1.eq_1 ?_
  have hlt : i < l.length := by omega
  have hlt' : (i : Int) < l.length := by omega
  rw [List.drop_eq_getElem_cons hlt, setF] at hr
  have hg := rws_c SetP.c_len7 hlt
  have hlen := rws_len SetP.c_len7 l
  have h46 := fun L => ok83 (H := H ++ L) (T := T) (rest := rest) (hh l[i] (List.getElem_mem hlt)) (get_app_l ho L) 1
  have h44 := fun L => ok82 (H := H ++ L) (T := T) (rest := rest) (get_app_l ho L) l[i].nm
  generalize l[i] = s at hr hg h46 h44
  obtain ⟨nm, ⟨op, m, en, el, ep⟩, p⟩ := s
  simp only [SetP.c, Ex.c, List.cons_append, List.nil_append] at hg
  simp only [Ex.v, Ex.c] at h46
  simp -implicitDefEqProofs [h0, hx0, hx1, hs, hn, hii, hlt, hlt', hg, hlen, rp]
  simp only at hr h44
  refine ⟨by omega, callq_go (fun _ => h44 _) ?_⟩
  by_cases h1 : nm ∈ vs
  · rw [if_neg (by simpa using h1)] at hr
    generalize wantF vs (.mk op m en el ep) 1 = w at hr h46
    simp -implicitDefEqProofs [h0, hx0, hx1, hs, hn, hii, h1, rp]
    refine callq_go (fun _ => h46 _) ?_
    by_cases hw : w.1 = 0
    · rw [if_neg (by simpa using hw)] at hr
      have hev : errV w.1 w.2 = .val .nilIface := by rw [hw]; rfl
      rw [hev]
      simp -implicitDefEqProofs [h0, hx0, hx1, hs, hn, hii]
      refine ih (i + 1) _ _ (by omega) hr ?_ ?_ ?_ ?_ ?_ ?_
      all_goals simp [h0, hx0, hx1, hs, hn, rp, wrap_suc (show i < 9223372036854775807 by omega)]
    · rw [if_pos hw] at hr
      subst hr
      have hev := errV_of hw w.2
      rw [hev]
      simp -implicitDefEqProofs [h0, hx0, hx1, hs, hn, hii]
      refine hret hw _ _ ?_
      simp [hev]
  · rw [if_pos h1] at hr
    subst hr
    simp -implicitDefEqProofs [h0, hx0, hx1, hs, hn, hii, h1, rp]
    refine call_go (ok53 (e := 7) (by decide) p) ?_
    simp -implicitDefEqProofs
    refine hret (show ¬ (7 : Int) = 0 by decide) _ _ ?_
    simp
theorem ok84 (ho : H[j]? = some (cO r)) (hl : r.stages.length < 4611686018427387904) {a : ActP} (hs2 : a.sets.length < 1099511627776) (hw2 : ∀ e ∈ a.wh, e.hgt ≤ 100000) (hh : ∀ s ∈ a.sets, s.e.hgt ≤ 100000) {i : Nat} (hi : i < 4611686018427387904) :
 Ok Tryz.prog 84 [rp j, i64 i, actV a] H (.ret (errV (actF (namesOf r) r.stages i a).1 (actF (namesOf r) r.stages i a).2)) H := by
 have hj := getElem?_lt ho
 have e1 := fun L => oc_app ho rfl rfl L
 simp only [cO, tyO] at e1
 generalize hw : actF (namesOf r) r.stages i a = w
 unfold actF at hw
 refine ok_fn hm Tryz.func84 c84 (by simp [rp]) fun hcl => ?_
 by_cases h1 : 1 < a.wh.length
 · rw [if_pos h1] at hw
   subst hw
   have h1' : (1 : Int) < a.wh.length := by omega
   simp -implicitDefEqProofs [i84, r84, rp, e1, actV, ActP.c, exS, h1, h1']
   refine call_go (ok53 (e := 3) (by decide) a.p) ?_
   simp -implicitDefEqProofs
   refine cv_fz 4 hcl rfl ?_
   simp
 rw [if_neg h1] at hw
 have h1' : ¬ (1 : Int) < a.wh.length := by omega
 simp -implicitDefEqProofs [i84, r84, rp, e1, actV, ActP.c, exS, h1, h1']
 refine LI.cong (H' := H ++ ⟨a.c, 51, 0, true⟩ :: []) (by simp [exS, ActP.c]) ?_
 refine loop84_0 (vs := namesOf r) (T := 68) (x0 := i64 i) (x1 := rp H.length) (by omega) hw2 ho (res := wantL (namesOf r) 2 a.wh) (fun h1 env G h4 => ?_) (fun h1 env G h0 hx0 hx1 => ?_) a.wh.length 0 [] _ (by omega) rfl ?_ ?_ ?_ ?_ ?_ ?_
 · rw [if_pos h1] at hw
   subst hw
   simp -implicitDefEqProofs [h4]
   refine cv_fz 4 hcl rfl ?_
   simp
 · rw [h1, if_neg (by simp)] at hw
   simp -implicitDefEqProofs [h0, hx0, hx1, rp, ActP.c]
   refine LI.cong (H' := H ++ ⟨a.c, 51, 0, true⟩ :: G) (by simp [exS, ActP.c]) ?_
   refine loop84_1 (vs := namesOf r) (T := 68) (x0 := i64 i) (x1 := rp H.length) hs2 hh ho (res := setF (namesOf r) a.sets) (fun h1 env G h4 => ?_) (fun h1 env G h0 hx0 hx1 => ?_) a.sets.length 0 G _ (by omega) rfl ?_ ?_ ?_ ?_ ?_ ?_
   · rw [if_pos h1] at hw
     subst hw
     simp -implicitDefEqProofs [h4]
     refine cv_fz 4 hcl rfl ?_
     simp
   · rw [h1, if_neg (by simp)] at hw
     unfold goF at hw
     by_cases h2 : a.go = []
     · rw [if_pos h2] at hw
       subst hw
       simp -implicitDefEqProofs [h0, hx0, hx1, rp, ActP.c, h2]
       refine cv_fz 4 hcl rfl ?_
       simp [errV_0]
     · rw [if_neg h2] at hw
       simp -implicitDefEqProofs [h0, hx0, hx1, rp, ActP.c, h2, e1]
       refine call_of (ok22 hl a.go) ?_
       generalize findF r.stages a.go = t at hw ⊢
       by_cases h3 : t < 0
       · rw [if_pos h3] at hw
         subst hw
         simp -implicitDefEqProofs [h0, hx0, hx1, rp, h3]
         refine call_go (ok53 (e := 7) (by decide) a.p) ?_
         simp -implicitDefEqProofs
         refine cv_fz 4 hcl rfl ?_
         simp
       rw [if_neg h3] at hw
       by_cases h4 : t ≤ (i : Int)
       · rw [if_pos h4] at hw
         subst hw
         simp -implicitDefEqProofs [h0, hx0, hx1, rp, h3, h4]
         refine call_go (ok53 (e := 9) (by decide) a.p) ?_
         simp -implicitDefEqProofs
         refine cv_fz 4 hcl rfl ?_
         simp
       · rw [if_neg h4] at hw
         subst hw
         simp -implicitDefEqProofs [h0, hx0, hx1, rp, h3, h4]
         refine cv_fz 4 hcl rfl ?_
         simp [errV_0]
   all_goals simp [h0, hx0, hx1, rp]
 all_goals simp [rp, exS]
end
end Go.Proofs.YthmdmnfojbnobaaGreatDoor
namespace Go.Proofs.YthmdmnfojbnobaaGreatDoor
open Go.Ab
def actsF (vs : List (List UInt8)) (stgs : List StageP) (i : Int) : List (List UInt8) -> List ActP -> Int × Int
 | _, [] => (0, 0)
 | l, a :: r => if a.nm ∈ l then (8, a.p) else if (actF vs stgs i a).1 ≠ 0 then actF vs stgs i a else actsF vs stgs i (addS l a.nm) r
def turnF (vs : List (List UInt8)) (stgs : List StageP) (i : Int) (x : StageP) : Int × Int := match x.who with
 | [] => (0, 0)
 | e :: _ => if (wantF vs e 1).1 ≠ 0 then wantF vs e 1 else if x.acts.length < 1 ∨ 10 < x.acts.length then (3, x.p) else actsF vs stgs i [] x.acts
structure ActP.Ok (a : ActP) : Prop where
 sets : a.sets.length < 1099511627776
 wh : ∀ e ∈ a.wh, e.hgt ≤ 100000
 e : ∀ s ∈ a.sets, s.e.hgt ≤ 100000
section
variable {H : List AO} {r : RulesP} {j : Nat}
theorem loop55 {l : List ActP} (hl : l.length ≤ 10) (hh : ∀ a ∈ l, a.Ok) (ho : H[j]? = some (cO r)) (hstg : r.stages.length < 4611686018427387904) {st : Nat} (hst : st < 4611686018427387904) {N : Nat} {K : XE -> Env -> List AO -> Prop} {A : AO} {res : Int × Int}
 (hret : res.1 ≠ 0 -> ∀ env G, env.get 6 = errV res.1 res.2 -> K .ret env (H ++ A :: G)) (hexit : res = (0, 0) -> ∀ env G, K (.exit 0) env (H ++ A :: G)) :
 ∀ (n i : Nat) (m : List (List UInt8)) (G : List AO) (env : Env), i + n = l.length -> actsF (namesOf r) r.stages st m (l.drop i) = res -> env.get 0 = rp j -> env.get 1 = i64 st -> env.get 8 = .mp (H.length + 1) 0 -> env.get 38 = .slc (rws ActP.c l) l.length -> env.get 39 = i64 l.length -> env.get 40 = i64 i →
  LI Tryz.prog N drawB l55_0 env (H ++ A :: vmO m :: G) K := by
 intro n
 induction n with
 | zero =>
  intro i m G env hi hr h0 h1 h8 hs hn hii
  refine li_go hm l55_0.eq_1 ?_
  have e : i = l.length := by omega
  subst e
  rw [List.drop_length] at hr
  simp -implicitDefEqProofs [h0, h1, h8, hs, hn, hii]
  exact hexit hr.symm _ _
 | succ n ih =>
  intro i m G env hi hr h0 h1 h8 hs hn hii
  refine li_go hm l55_0.eq_1 ?_
  have hlt : i < l.length := by omega
  have hlt' : (i : Int) < l.length := by omega
  rw [List.drop_eq_getElem_cons hlt, actsF] at hr
  have hg := rws_c ActP.c_len hlt
  have hlen := rws_len ActP.c_len l
  have hok := hh l[i] (List.getElem_mem hlt)
  have h47 := fun L => ok84 (H := H ++ L) (get_app_l ho L) hstg (a := l[i]) hok.sets hok.wh hok.e hst
  generalize l[i] = a at hr hg h47 hok
  have mo : ∀ G, SV.mapOf (H ++ A :: vmO m :: G) (.mp (H.length + 1) 0) = some (sks m, trues m.length) := fun G => by
   have : (H ++ A :: vmO m :: G)[H.length + 1]? = some (vmO m) := by simp
   simp only [SV.mapOf, this]; simp [vmO]
  have hal' : ∀ v ∈ sks m, KK.s.is v = true := fun v hv => List.all_eq_true.1 (sks_all m) v hv
  have hlk := lkm_s a.nm m
  simp only [ActP.c, exS] at hg
  simp only [actV, ActP.c, exS] at h47
  by_cases hv : a.nm ∈ m
  · rw [if_pos hv] at hr hlk
    subst hr
    simp -implicitDefEqProofs [h0, h1, h8, hs, hn, hii, hlt, hlt', hg, hlen, mo, hlk, exS]
    refine ⟨by omega, hal', call_go (ok53 (e := 8) (by decide) a.p) ?_⟩
    simp -implicitDefEqProofs
    refine hret (show ¬ (8 : Int) = 0 by decide) _ _ ?_
    simp
  · rw [if_neg hv] at hr hlk
    have e1 := setK_s a.nm m
    have e2 := setV_s a.nm m
    generalize actF (namesOf r) r.stages st a = w at hr h47
    simp -implicitDefEqProofs [h0, h1, h8, hs, hn, hii, hlt, hlt', hg, hlen, mo, hlk, exS]
    refine ⟨by omega, hal', s_mup_go (x := (sks m, trues m.length)) (mo _) rfl rfl (sks_all m) ?_⟩
    simp -implicitDefEqProofs [h0, h1, h8, hs, hn, hii, vmO, e1, e2, rp]
    refine call_go (h47 _) ?_
    by_cases hw : w.1 = 0
    · rw [if_neg (by simpa using hw)] at hr
      have hev : errV w.1 w.2 = .val .nilIface := by rw [hw]; rfl
      rw [hev]
      simp -implicitDefEqProofs [h0, h1, h8, hs, hn, hii]
      refine LI.cong ?_ (ih (i + 1) (addS m a.nm) (G ++ [⟨a.c, 51, 0, true⟩]) _ (by omega) hr ?_ ?_ ?_ ?_ ?_ ?_)
      · simp [vmO, ActP.c, exS]
      all_goals simp [h0, h1, h8, hs, hn, rp, wrap_suc (show i < 9223372036854775807 by omega)]
    · rw [if_pos hw] at hr
      subst hr
      have hev := errV_of hw w.2
      rw [hev]
      simp -implicitDefEqProofs [h0, h1, h8, hs, hn, hii]
      refine hret hw _ _ ?_
      simp [hev]
theorem ok55 (ho : H[j]? = some (cO r)) (hl : r.stages.length < 4611686018427387904) {x : StageP} (hx : x.acts.length < 4611686018427387904) {e0 : Ex} {wr : List Ex} (hwho : x.who = e0 :: wr) (he0 : e0.hgt ≤ 100000) (hh : ∀ a ∈ x.acts, a.Ok) {i : Nat} (hi : i < 4611686018427387904) :
 Ok Tryz.prog 55 [rp j, i64 i, stageV x] H (.ret (errV (turnF (namesOf r) r.stages i x).1 (turnF (namesOf r) r.stages i x).2)) H := by
 have hj := getElem?_lt ho
 have e1 := fun L => oc_app ho rfl rfl L
 simp only [cO, tyO] at e1
 have h46 := fun L => ok83 (H := H ++ L) (T := 68) (vs := namesOf r) he0 (get_app_l ho L) 1
 generalize hw : turnF (namesOf r) r.stages i x = w
 unfold turnF at hw
 rw [hwho] at hw
 simp only at hw
 refine ok_fn hm Tryz.func55 c55 (by simp [rp]) fun hcl => ?_
 generalize hq : wantF (namesOf r) e0 1 = q at hw h46
 obtain ⟨op, m, en, el, ep⟩ := e0
 simp only [Ex.v, Ex.c] at h46
 simp -implicitDefEqProofs [i55, r55, rp, e1, stageV, StageP.c, exS, hwho, Ex.cL, Ex.c]
 refine callq_go (fun _ => h46 _) ?_
 by_cases hw1 : q.1 = 0
 · rw [if_neg (by simpa using hw1)] at hw
   have hev : errV q.1 q.2 = .val .nilIface := by rw [hw1]; rfl
   rw [hev]
   by_cases a1 : x.acts.length < 1
   · rw [if_pos (.inl a1)] at hw
     subst hw
     have a1' : (x.acts.length : Int) < 1 := by omega
     simp -implicitDefEqProofs [rp, a1, a1']
     refine call_go (ok53 (e := 3) (by decide) x.p) ?_
     simp -implicitDefEqProofs
     refine cv_fz 3 hcl rfl ?_
     simp
   by_cases a2 : 10 < x.acts.length
   · rw [if_pos (.inr a2)] at hw
     subst hw
     have a1' : ¬ (x.acts.length : Int) < 1 := by omega
     have a2' : (10 : Int) < x.acts.length := by omega
     simp -implicitDefEqProofs [rp, a1, a1', a2, a2']
     refine call_go (ok53 (e := 3) (by decide) x.p) ?_
     simp -implicitDefEqProofs
     refine cv_fz 3 hcl rfl ?_
     simp
   rw [if_neg (by omega)] at hw
   have a1' : decide ((x.acts.length : Int) < 1) = false := by simp; omega
   have a2' : decide ((10 : Int) < x.acts.length) = false := by simp; omega
   simp -implicitDefEqProofs [rp, a1', a2']
   refine LI.cong (H' := H ++ ⟨x.c, 45, 0, true⟩ :: vmO [] :: []) (by simp [exS, StageP.c, vmO, hwho, Ex.cL, Ex.c, sks, trues]) ?_
   refine loop55 (by omega) hh ho hl hi (res := w) (fun h1 env G h4 => ?_) (fun h1 env G => ?_) x.acts.length 0 [] [] _ (by omega) hw ?_ ?_ ?_ ?_ ?_ ?_
   · simp -implicitDefEqProofs [h4]
     refine cv_fz 4 hcl rfl ?_
     simp
   · rw [h1]
     simp -implicitDefEqProofs
     refine cv_fz 4 hcl rfl ?_
     simp [errV_0]
   all_goals simp [rp]
 · rw [if_pos hw1] at hw
   subst hw
   have hev := errV_of hw1 q.2
   rw [hev]
   simp -implicitDefEqProofs
   refine cv_fz 3 hcl rfl ?_
   rw [← hev]; simp
end
end Go.Proofs.YthmdmnfojbnobaaGreatDoor
namespace Go.Proofs.YthmdmnfojbnobaaGreatDoor
open Go.Ab
def stageF (vs : List (List UInt8)) (pl : Int) (stgs : List StageP) (i : Int) (x : StageP) : Int × Int :=
 if 1 < x.wt.length ∨ (x.k = 2 ∧ x.who.length ≠ 1) then (3, x.p) else if x.k = 1 then dealF vs pl x else if x.k = 2 then turnF vs stgs i x else if x.k = 3 then endF vs pl x else (3, x.p)
def stagesF (vs : List (List UInt8)) (pl : Int) (stgs : List StageP) : Nat -> List StageP -> Int × Int
 | _, [] => (0, 0)
 | i, x :: r => if (stageF vs pl stgs (i : Int) x).1 ≠ 0 then stageF vs pl stgs (i : Int) x else stagesF vs pl stgs (i + 1) r
structure StageP.Ok (x : StageP) : Prop where
 wt : ∀ e ∈ x.wt, e.hgt ≤ 100000
 seen : x.seen.length < 4611686018427387904
 who : ∀ e ∈ x.who, e.hgt ≤ 100000
 acts : x.acts.length < 4611686018427387904
 act : ∀ a ∈ x.acts, a.Ok
 lp : x.pays.length < 4611686018427387904
 pays : ∀ e ∈ x.pays, e.hgt ≤ 100000
section
variable {H : List AO} {r : RulesP} {j : Nat}
theorem loop30 (hl : r.stages.length < 4611686018427387904) (hh : ∀ x ∈ r.stages, x.Ok) (ho : H[j]? = some (cO r)) {N : Nat} {K : XE -> Env -> List AO -> Prop} {res : Int × Int}
 (hret : res.1 ≠ 0 -> ∀ env G, env.get 2 = errV res.1 res.2 -> K .ret env (H ++ G)) (hexit : res = (0, 0) -> ∀ env G, K (.exit 0) env (H ++ G)) :
 ∀ (n i : Nat) (G : List AO) (env : Env), i + n = r.stages.length -> stagesF (namesOf r) r.pl r.stages i (r.stages.drop i) = res -> env.get 0 = rp j -> env.get 10 = stgsV r.stages -> env.get 11 = i64 r.stages.length -> env.get 12 = i64 i →
  LI Tryz.prog N drawB l30_0 env (H ++ G) K := by
 intro n
 induction n with
 | zero =>
  intro i G env hi hr h0 hs hn hii
  refine li_go hm l30_0.eq_1 ?_
  have e : i = r.stages.length := by omega
  subst e
  rw [List.drop_length] at hr
  simp -implicitDefEqProofs [h0, hs, hn, hii]
  exact hexit hr.symm _ _
 | succ n ih =>
  intro i G env hi hr h0 hs hn hii
  refine li_go hm l30_0.eq_1 ?_
  have hlt : i < r.stages.length := by omega
  have hlt' : (i : Int) < r.stages.length := by omega
  rw [List.drop_eq_getElem_cons hlt, stagesF] at hr
  have hg := rws_c StageP.c_len hlt
  have hlen := rws_len StageP.c_len r.stages
  have hok := hh r.stages[i] (List.getElem_mem hlt)
  generalize r.stages[i] = x at hr hg hok
  have hob := fun L => get_app_l ho L
  simp only [StageP.c, exS] at hg
  have hsv : stageV x = .agg [i64 x.k, st (B x.lb), st (B x.nm), i64 x.lo, i64 x.hi, .slc (Ex.cL x.wt) x.wt.length, bl x.all, .slc (ints x.seen) x.seen.length, .slc (Ex.cL x.who) x.who.length, .slc (rws ActP.c x.acts) x.acts.length, .slc (Ex.cL x.pays) x.pays.length, i64 x.p] := rfl
  generalize hw : stageF (namesOf r) r.pl r.stages i x = w at hr
  unfold stageF at hw
  have h28 : ∀ L, (3, x.p) = w -> Ok Tryz.prog 53 [i64 3, i64 x.p] L (.ret (errV w.1 w.2)) L := fun L h => by subst h; exact ok53 (e := 3) (by decide) x.p
  by_cases w1 : 1 < x.wt.length
  · rw [if_pos (.inl w1)] at hw
    have w1' : decide ((1 : Int) < x.wt.length) = true := by simp; omega
    simp -implicitDefEqProofs [h0, hs, hn, hii, stgsV, hlt, hlt', hg, hlen, rp, w1']
    refine ⟨by omega, call_go (out := .ret (errV w.1 w.2)) (h28 _ hw) ?_⟩
    by_cases hw1 : w.1 = 0
    · rw [if_neg (by simpa using hw1)] at hr
      have hev : errV w.1 w.2 = .val .nilIface := by rw [hw1]; rfl
      rw [hev]
      simp -implicitDefEqProofs [h0, hs, hn, hii]
      refine LI.cong ?_ (ih (i + 1) (G ++ [⟨x.c, 45, 0, true⟩]) _ (by omega) hr ?_ ?_ ?_ ?_)
      · simp [StageP.c, exS]
      all_goals simp [h0, hs, hn, rp, stgsV, wrap_suc (show i < 9223372036854775807 by omega)]
    · rw [if_pos hw1] at hr
      subst hr
      have hev := errV_of hw1 w.2
      rw [hev]
      simp -implicitDefEqProofs [h0, hs, hn, hii]
      refine hret hw1 _ _ ?_
      simp [hev]
  have w1' : decide ((1 : Int) < x.wt.length) = false := by simp; omega
  by_cases w2 : x.k = 2
  · by_cases w3 : x.who.length = 1
    · rw [if_neg (by omega), if_neg (by omega), if_pos w2] at hw
      obtain ⟨e0, hwho⟩ := List.length_eq_one_iff.1 w3
      have w3' : decide ((x.who.length : Int) = 1) = true := by simp; omega
      have k1 : decide (x.k = 1) = false := by simp; omega
      have k2 : decide (x.k = 2) = true := by simp; omega
      simp -implicitDefEqProofs [h0, hs, hn, hii, stgsV, hlt, hlt', hg, hlen, rp, w1', k1, k2, w3']
      refine ⟨by omega, call_go (out := .ret (errV w.1 w.2)) (hw ▸ hsv ▸ ok55 (hob _) hl hok.acts hwho (hok.who e0 (by simp [hwho])) hok.act (by omega)) ?_⟩
      by_cases hw1 : w.1 = 0
      · rw [if_neg (by simpa using hw1)] at hr
        have hev : errV w.1 w.2 = .val .nilIface := by rw [hw1]; rfl
        rw [hev]
        simp -implicitDefEqProofs [h0, hs, hn, hii]
        refine LI.cong ?_ (ih (i + 1) (G ++ [⟨x.c, 45, 0, true⟩]) _ (by omega) hr ?_ ?_ ?_ ?_)
        · simp [StageP.c, exS]
        all_goals simp [h0, hs, hn, rp, stgsV, wrap_suc (show i < 9223372036854775807 by omega)]
      · rw [if_pos hw1] at hr
        subst hr
        have hev := errV_of hw1 w.2
        rw [hev]
        simp -implicitDefEqProofs [h0, hs, hn, hii]
        refine hret hw1 _ _ ?_
        simp [hev]
    · rw [if_pos (.inr ⟨w2, w3⟩)] at hw
      have w3' : decide ((x.who.length : Int) = 1) = false := by simp; omega
      have k1 : decide (x.k = 1) = false := by simp; omega
      have k2 : decide (x.k = 2) = true := by simp; omega
      simp -implicitDefEqProofs [h0, hs, hn, hii, stgsV, hlt, hlt', hg, hlen, rp, w1', k1, k2, w3']
      refine ⟨by omega, call_go (out := .ret (errV w.1 w.2)) (h28 _ hw) ?_⟩
      by_cases hw1 : w.1 = 0
      · rw [if_neg (by simpa using hw1)] at hr
        have hev : errV w.1 w.2 = .val .nilIface := by rw [hw1]; rfl
        rw [hev]
        simp -implicitDefEqProofs [h0, hs, hn, hii]
        refine LI.cong ?_ (ih (i + 1) (G ++ [⟨x.c, 45, 0, true⟩]) _ (by omega) hr ?_ ?_ ?_ ?_)
        · simp [StageP.c, exS]
        all_goals simp [h0, hs, hn, rp, stgsV, wrap_suc (show i < 9223372036854775807 by omega)]
      · rw [if_pos hw1] at hr
        subst hr
        have hev := errV_of hw1 w.2
        rw [hev]
        simp -implicitDefEqProofs [h0, hs, hn, hii]
        refine hret hw1 _ _ ?_
        simp [hev]
  rw [if_neg (by omega)] at hw
  by_cases w3 : x.k = 1
  · rw [if_pos w3] at hw
    have k1 : decide (x.k = 1) = true := by simp; omega
    have k2 : decide (x.k = 2) = false := by simp; omega
    simp -implicitDefEqProofs [h0, hs, hn, hii, stgsV, hlt, hlt', hg, hlen, rp, w1', k1, k2]
    refine ⟨by omega, call_go (out := .ret (errV w.1 w.2)) (hw ▸ hsv ▸ ok54 (hob _) (by omega) hok.seen hok.wt) ?_⟩
    by_cases hw1 : w.1 = 0
    · rw [if_neg (by simpa using hw1)] at hr
      have hev : errV w.1 w.2 = .val .nilIface := by rw [hw1]; rfl
      rw [hev]
      simp -implicitDefEqProofs [h0, hs, hn, hii]
      refine LI.cong ?_ (ih (i + 1) (G ++ [⟨x.c, 45, 0, true⟩]) _ (by omega) hr ?_ ?_ ?_ ?_)
      · simp [StageP.c, exS]
      all_goals simp [h0, hs, hn, rp, stgsV, wrap_suc (show i < 9223372036854775807 by omega)]
    · rw [if_pos hw1] at hr
      subst hr
      have hev := errV_of hw1 w.2
      rw [hev]
      simp -implicitDefEqProofs [h0, hs, hn, hii]
      refine hret hw1 _ _ ?_
      simp [hev]
  rw [if_neg w3, if_neg w2] at hw
  by_cases w4 : x.k = 3
  · rw [if_pos w4] at hw
    have k1 : decide (x.k = 1) = false := by simp; omega
    have k2 : decide (x.k = 2) = false := by simp; omega
    have k3 : decide (x.k = 3) = true := by simp; omega
    simp -implicitDefEqProofs [h0, hs, hn, hii, stgsV, hlt, hlt', hg, hlen, rp, w1', k1, k2, k3]
    refine ⟨by omega, call_go (out := .ret (errV w.1 w.2)) (hw ▸ hsv ▸ ok56 (hob _) hok.lp hok.pays) ?_⟩
    by_cases hw1 : w.1 = 0
    · rw [if_neg (by simpa using hw1)] at hr
      have hev : errV w.1 w.2 = .val .nilIface := by rw [hw1]; rfl
      rw [hev]
      simp -implicitDefEqProofs [h0, hs, hn, hii]
      refine LI.cong ?_ (ih (i + 1) (G ++ [⟨x.c, 45, 0, true⟩]) _ (by omega) hr ?_ ?_ ?_ ?_)
      · simp [StageP.c, exS]
      all_goals simp [h0, hs, hn, rp, stgsV, wrap_suc (show i < 9223372036854775807 by omega)]
    · rw [if_pos hw1] at hr
      subst hr
      have hev := errV_of hw1 w.2
      rw [hev]
      simp -implicitDefEqProofs [h0, hs, hn, hii]
      refine hret hw1 _ _ ?_
      simp [hev]
  · rw [if_neg w4] at hw
    have k1 : decide (x.k = 1) = false := by simp; omega
    have k2 : decide (x.k = 2) = false := by simp; omega
    have k3 : decide (x.k = 3) = false := by simp; omega
    simp -implicitDefEqProofs [h0, hs, hn, hii, stgsV, hlt, hlt', hg, hlen, rp, w1', k1, k2, k3]
    refine ⟨by omega, call_go (out := .ret (errV w.1 w.2)) (h28 _ hw) ?_⟩
    by_cases hw1 : w.1 = 0
    · rw [if_neg (by simpa using hw1)] at hr
      have hev : errV w.1 w.2 = .val .nilIface := by rw [hw1]; rfl
      rw [hev]
      simp -implicitDefEqProofs [h0, hs, hn, hii]
      refine LI.cong ?_ (ih (i + 1) (G ++ [⟨x.c, 45, 0, true⟩]) _ (by omega) hr ?_ ?_ ?_ ?_)
      · simp [StageP.c, exS]
      all_goals simp [h0, hs, hn, rp, stgsV, wrap_suc (show i < 9223372036854775807 by omega)]
    · rw [if_pos hw1] at hr
      subst hr
      have hev := errV_of hw1 w.2
      rw [hev]
      simp -implicitDefEqProofs [h0, hs, hn, hii]
      refine hret hw1 _ _ ?_
      simp [hev]
end
end Go.Proofs.YthmdmnfojbnobaaGreatDoor
namespace Go.Proofs.YthmdmnfojbnobaaGreatDoor
open Go.Ab
def firstF : List (Int × Int) -> Int × Int
 | [] => (0, 0)
 | w :: r => if w.1 ≠ 0 then w else firstF r
def checkF (r : RulesP) : Int × Int := firstF [plF r, varF [] r.vars, labF [] r.stages, lastF r.stages, stagesF (namesOf r) r.pl r.stages 0 r.stages]
section
variable {H : List AO} {r : RulesP} {j : Nat}
theorem ok30 (ho : H[j]? = some (cO r)) (hl : r.stages.length < 4611686018427387904) (hh : ∀ x ∈ r.stages, x.Ok) : Ok Tryz.prog 30 [rp j] H (.ret (errV (stagesF (namesOf r) r.pl r.stages 0 r.stages).1 (stagesF (namesOf r) r.pl r.stages 0 r.stages).2)) H := by
 have hj := getElem?_lt ho
 have e1 := fun L => oc_app ho rfl rfl L
 have e0 : objCells H j 0 = (cO r).cells := objCells_of ho rfl
 simp only [cO, tyO, stgsV] at e1 e0
 generalize hw : stagesF (namesOf r) r.pl r.stages 0 r.stages = w
 refine ok_fn hm Tryz.func30 c30 (by simp [rp]) fun hcl => ?_
 simp -implicitDefEqProofs [i30, r30, rp, e0, e1]
 refine LI.cong (H' := H ++ []) (by simp) ?_
 refine loop30 hl hh ho (res := w) (fun h1 env G h4 => ?_) (fun h1 env G => ?_) r.stages.length 0 [] _ (by omega) hw ?_ ?_ ?_ ?_
 · simp -implicitDefEqProofs [h4]
   refine cv_fz 3 hcl rfl ?_
   simp
 · rw [h1]
   simp -implicitDefEqProofs
   refine cv_fz 3 hcl rfl ?_
   simp [errV_0]
 all_goals simp [rp, stgsV]
def stepsO (fs : List Nat) (j : Nat) : List SV := fs.map fun k => .fn (.func k) [rp j] []
theorem loop25 {fs : List Nat} {ws : List (Int × Int)} {q T : Nat} (hf : fs.length = 5) (hws : ws.length = 5) (hq : H[q]? = some ⟨stepsO fs j, T, 0, true⟩) (hall : ∀ i (h1 : i < fs.length) (h2 : i < ws.length) L, Ok Tryz.prog fs[i] [rp j] (H ++ L) (.ret (errV ws[i].1 ws[i].2)) (H ++ L)) {N : Nat} {K : XE -> Env -> List AO -> Prop} {res : Int × Int}
 (hret : res.1 ≠ 0 -> ∀ env G, env.get 2 = errV res.1 res.2 -> K .ret env (H ++ G)) (hexit : res = (0, 0) -> ∀ env G, K (.exit 0) env (H ++ G)) :
 ∀ (n i : Nat) (G : List AO) (env : Env), i + n = 5 -> firstF (ws.drop i) = res -> env.get 6 = .own q 0 5 1 0 -> env.get 7 = i64 5 -> env.get 8 = i64 i →
  LI Tryz.prog N drawB l25_0 env (H ++ G) K := by
 have hj := getElem?_lt hq
 have e1 := fun L => oc_app hq rfl rfl L
 intro n
 induction n with
 | zero =>
  intro i G env hi hr hs hn hii
  refine li_go hm l25_0.eq_1 ?_
  have e : i = 5 := by omega
  subst e
  rw [List.drop_of_length_le (by omega)] at hr
  simp -implicitDefEqProofs [hs, hn, hii]
  exact hexit hr.symm _ _
 | succ n ih =>
  intro i G env hi hr hs hn hii
  refine li_go hm l25_0.eq_1 ?_
  have hlt : i < fs.length := by omega
  have hlt2 : i < ws.length := by omega
  have hlt5 : i < 5 := by omega
  have hlt' : (i : Int) < 5 := by omega
  rw [List.drop_eq_getElem_cons hlt2, firstF] at hr
  have h := hall i hlt hlt2
  have hc : ∀ h, (stepsO fs j)[i]'h = .fn (.func fs[i]) [rp j] [] := fun h => by simp [stepsO]
  have hsl : (stepsO fs j).length = 5 := by simp [stepsO, hf]
  generalize ws[i] = w at hr h
  generalize fs[i] = k at h hc
  simp -implicitDefEqProofs [hs, hn, hii, hlt', hlt5, e1, hj, hc, hsl]
  refine ⟨by omega, call_of (h _) ?_⟩
  by_cases hw : w.1 = 0
  · rw [if_neg (by simpa using hw)] at hr
    have hev : errV w.1 w.2 = .val .nilIface := by rw [hw]; rfl
    rw [hev]
    simp -implicitDefEqProofs [hs, hn, hii]
    refine ih (i + 1) _ _ (by omega) hr ?_ ?_ ?_
    all_goals simp [hs, hn, wrap_suc (show i < 9223372036854775807 by omega)]
  · rw [if_pos hw] at hr
    subst hr
    have hev := errV_of hw w.2
    rw [hev]
    simp -implicitDefEqProofs [hs, hn, hii]
    refine hret hw _ _ ?_
    simp [hev]
theorem ok25 {fs : List Nat} {ws : List (Int × Int)} {q T : Nat} (hf : fs.length = 5) (hws : ws.length = 5) (hq : H[q]? = some ⟨stepsO fs j, T, 0, true⟩) (hall : ∀ i (h1 : i < fs.length) (h2 : i < ws.length) L, Ok Tryz.prog fs[i] [rp j] (H ++ L) (.ret (errV ws[i].1 ws[i].2)) (H ++ L)) :
 Ok Tryz.prog 25 [.own q 0 5 1 0] H (.ret (errV (firstF ws).1 (firstF ws).2)) H := by
 have hj := getElem?_lt hq
 generalize hw : firstF ws = w
 refine ok_fn hm Tryz.func25 c25 (by simp) fun hcl => ?_
 simp -implicitDefEqProofs [i25, r25]
 refine LI.cong (H' := H ++ []) (by simp) ?_
 refine loop25 hf hws hq hall (res := w) (fun h1 env G h4 => ?_) (fun h1 env G => ?_) 5 0 [] _ (by omega) hw ?_ ?_ ?_
 · simp -implicitDefEqProofs [h4]
   refine cv_fz 3 hcl rfl ?_
   simp
 · rw [h1]
   simp -implicitDefEqProofs
   refine cv_fz 3 hcl rfl ?_
   simp [errV_0]
 all_goals simp
structure RulesP.Ok (r : RulesP) : Prop where
 vars : r.vars.length < 1099511627776
 stages : r.stages.length < 4611686018427387904
 st : ∀ x ∈ r.stages, x.Ok
theorem firstF_0 : ∀ l : List (Int × Int), (firstF l).1 = 0 -> firstF l = (0, 0)
 | [], _ => rfl
 | w :: l, h => by
  rw [firstF] at h ⊢
  by_cases hw : w.1 = 0
  · rw [if_neg (by simpa using hw)] at h ⊢
    exact firstF_0 l h
  · rw [if_pos hw] at h
    exact absurd h hw
theorem ok10 (hr : r.Ok) : Ok Tryz.prog 10 [rulesV r] H (.ret (.agg [i64 (checkF r).1, i64 (checkF r).2])) H := by
 have h14 := fun H => ok13 (H := H) (r := r) hr.vars
 have h13 := fun H => ok24 (H := H) (vs := namesOf r) (by have := hr.vars; simp [namesOf]; omega)
 generalize hw : checkF r = w
 simp only [rulesV, RulesP.c] at h14
 refine ok_fn hm Tryz.func10 c10 (by simp) fun hcl => ?_
 simp -implicitDefEqProofs [i10, r10, rulesV, RulesP.c]
 refine callq_go (fun _ => h14 _) ?_
 simp -implicitDefEqProofs
 refine callq_go (fun _ => h13 _) ?_
 simp -implicitDefEqProofs [typV]
 have hc : ∀ L, Ok Tryz.prog 25 [.own (H.length + 3) 0 5 1 0] (H ++ ⟨r.c, 25, 0, true⟩ :: ⟨[i64 0, i64 0], 32, 0, true⟩ :: cO r :: ⟨stepsO [26, 27, 28, 29, 30] (H.length + 2), 72, 0, true⟩ :: L) (.ret (errV w.1 w.2)) (H ++ ⟨r.c, 25, 0, true⟩ :: ⟨[i64 0, i64 0], 32, 0, true⟩ :: cO r :: ⟨stepsO [26, 27, 28, 29, 30] (H.length + 2), 72, 0, true⟩ :: L) := fun L => by
  rw [← hw]
  refine ok25 (j := H.length + 2) (T := 72) (fs := [26, 27, 28, 29, 30]) rfl rfl (by simp) fun i h1 h2 L2 => ?_
  have ho : ((H ++ ⟨r.c, 25, 0, true⟩ :: ⟨[i64 0, i64 0], 32, 0, true⟩ :: cO r :: ⟨stepsO [26, 27, 28, 29, 30] (H.length + 2), 72, 0, true⟩ :: L) ++ L2)[H.length + 2]? = some (cO r) := by
   rw [List.append_assoc, List.getElem?_append_right (by omega), show H.length + 2 - H.length = 2 by omega]; rfl
  have hst := hr.stages
  rcases i with _ | _ | _ | _ | _ | i
  · exact ok26 ho
  · exact ok27 ho (by have := hr.vars; omega)
  · exact ok28 ho hr.stages
  · exact ok29 ho hr.stages
  · exact ok30 ho hr.stages hr.st
  · exact absurd h1 (by simp)
 refine ⟨⟨rfl, rfl, rfl⟩, call_go (hc []) ?_⟩
 by_cases h0 : w.1 = 0
 · have hev : errV w.1 w.2 = .val .nilIface := by rw [h0]; rfl
   rw [hev]
   simp -implicitDefEqProofs
   have hw0 : w = (0, 0) := by subst hw; exact firstF_0 _ h0
   rw [hw0]
   refine cv_fz 4 hcl rfl ?_
   simp
 · have hev := errV_of h0 w.2
   have h22 := fun L => ok31 (H := L) h0 w.2
   rw [hev] at h22
   rw [hev]
   simp -implicitDefEqProofs
   refine call_go (h22 _) ?_
   simp -implicitDefEqProofs [fltV]
   refine cv_fz 4 hcl rfl ?_
   simp
end
end Go.Proofs.YthmdmnfojbnobaaGreatDoor
namespace Go.Proofs.YthmdmnfojbnobaaGreatDoor
open Go.Ab
def xS : List (List UInt8) := [[120]]
def okA (a : ActP) : Bool := decide (a.sets.length < 1099511627776) && (a.wh.all (fun e => decide (e.hgt ≤ 100000)) && a.sets.all (fun s => decide (s.e.hgt ≤ 100000)))
def okS (x : StageP) : Bool := x.wt.all (fun e => decide (e.hgt ≤ 100000)) && (decide (x.seen.length < 4611686018427387904) && (x.who.all (fun e => decide (e.hgt ≤ 100000)) && (decide (x.acts.length < 4611686018427387904) && (x.acts.all okA && (decide (x.pays.length < 4611686018427387904) && x.pays.all (fun e => decide (e.hgt ≤ 100000)))))))
def okR (r : RulesP) : Bool := decide (r.vars.length < 1099511627776) && (decide (r.stages.length < 4611686018427387904) && r.stages.all okS)
theorem okA_ok {a : ActP} (h : okA a = true) : a.Ok := by
 simp only [okA, Bool.and_eq_true, decide_eq_true_eq, List.all_eq_true] at h
 exact ⟨h.1, h.2.1, h.2.2⟩
theorem okS_ok {x : StageP} (h : okS x = true) : x.Ok := by
 simp only [okS, Bool.and_eq_true, decide_eq_true_eq, List.all_eq_true] at h
 obtain ⟨h1, h2, h3, h4, h5, h6, h7⟩ := h
 exact ⟨h1, h2, h3, h4, fun a ha => okA_ok (h5 a ha), h6, h7⟩
theorem okR_ok {r : RulesP} (h : okR r = true) : r.Ok := by
 simp only [okR, Bool.and_eq_true, decide_eq_true_eq, List.all_eq_true] at h
 exact ⟨h.1, h.2.1, fun x hx => okS_ok (h.2.2 x hx)⟩
section
variable {H : List AO} {l : List UInt8}
theorem ok50 (hl : l.length < 4611686018427387904) : Ok Tryz.prog 50 [st (B l)] H (.ret (exprR l).1.v) H := by
 have h := fun H => ok81 (H := H) hl
 generalize exprR l = q at h ⊢
 obtain ⟨⟨op, n, nm, es, p⟩, e, at_⟩ := q
 simp only [Ex.v, Ex.c] at h
 refine ok_fn hm Tryz.func50 c50 (by simp) fun hcl => ?_
 simp -implicitDefEqProofs [i50, r50, Ex.v, Ex.c]
 refine call_go (h _) ?_
 simp -implicitDefEqProofs [fltV]
 refine cv_fz 4 hcl rfl ?_
 simp
theorem ok16 (hl : l.length < 4611686018427387904) : Ok Tryz.prog 16 [st (B l)] H (.ret (rulesV (parseR l).1)) H := by
 have h := fun H => ok36 (H := H) hl
 generalize parseR l = q at h ⊢
 obtain ⟨⟨nm, pl, vs, ss⟩, e, at_⟩ := q
 simp only [rulesV, RulesP.c] at h
 refine ok_fn hm Tryz.func16 c16 (by simp) fun hcl => ?_
 simp -implicitDefEqProofs [i16, r16, rulesV, RulesP.c]
 refine call_go (h _) ?_
 simp -implicitDefEqProofs [fltV]
 refine cv_fz 4 hcl rfl ?_
 simp
theorem ok21 (hl : l.length < 4611686018427387904) {k e p : Int} (hh : decide ((exprR l).1.hgt ≤ 100000) = true) (ht : tyE xS (exprR l).1 = (k, e, p)) : Ok Tryz.prog 21 [st (B l), i64 k, i64 e, i64 p] H (.ret (bl true)) H := by
 have h := fun H => ok50 (H := H) hl
 have h10 := fun H x (hx : IsS H x xS) => ok49x (H := H) (vs := xS) hx (of_decide_eq_true hh) (by decide)
 rw [ht] at h10
 refine ok_fn hm Tryz.func21 c21 (by simp) fun hcl => ?_
 simp -implicitDefEqProofs [i21, r21]
 refine call_go (h _) ?_
 simp -implicitDefEqProofs
 refine call_go (h10 _ _ (IsS.own1 (T := 9) (k := 0) rfl rfl)) ?_
 simp -implicitDefEqProofs [fltV]
 refine cv_fz 4 hcl rfl ?_
 simp
end
end Go.Proofs.YthmdmnfojbnobaaGreatDoor
namespace Go.Proofs.YthmdmnfojbnobaaGreatDoor
open Go.Ab
section
variable {H : List AO}
theorem ex0 : Ok Tryz.prog 21 [st ⟨#[49, 32, 43, 32, 120]⟩, i64 1, i64 0, i64 0] H (.ret (bl true)) H := ok21 (l := [49, 32, 43, 32, 120]) (by decide) (by kernel_rfl) (by kernel_rfl)
theorem ex1 : Ok Tryz.prog 21 [st ⟨#[120, 32, 60, 32, 50, 32, 97, 110, 100, 32, 110, 111, 116, 32, 120, 32, 61, 61, 32, 49]⟩, i64 2, i64 0, i64 0] H (.ret (bl true)) H := ok21 (l := [120, 32, 60, 32, 50, 32, 97, 110, 100, 32, 110, 111, 116, 32, 120, 32, 61, 61, 32, 49]) (by decide) (by kernel_rfl) (by kernel_rfl)
theorem ex2 : Ok Tryz.prog 21 [st ⟨#[105, 102, 40, 120, 32, 60, 32, 49, 44, 32, 50, 44, 32, 120, 41]⟩, i64 1, i64 0, i64 0] H (.ret (bl true)) H := ok21 (l := [105, 102, 40, 120, 32, 60, 32, 49, 44, 32, 50, 44, 32, 120, 41]) (by decide) (by kernel_rfl) (by kernel_rfl)
theorem ex3 : Ok Tryz.prog 21 [st ⟨#[121]⟩, i64 0, i64 7, i64 0] H (.ret (bl true)) H := ok21 (l := [121]) (by decide) (by kernel_rfl) (by kernel_rfl)
theorem ex4 : Ok Tryz.prog 21 [st ⟨#[49, 32, 43, 32, 40, 120, 32, 60, 32, 50, 41]⟩, i64 0, i64 10, i64 7] H (.ret (bl true)) H := ok21 (l := [49, 32, 43, 32, 40, 120, 32, 60, 32, 50, 41]) (by decide) (by kernel_rfl) (by kernel_rfl)
theorem ex5 : Ok Tryz.prog 21 [st ⟨#[105, 102, 40, 49, 44, 32, 50, 44, 32, 51, 41]⟩, i64 0, i64 10, i64 3] H (.ret (bl true)) H := ok21 (l := [105, 102, 40, 49, 44, 32, 50, 44, 32, 51, 41]) (by decide) (by kernel_rfl) (by kernel_rfl)
theorem ex6 : Ok Tryz.prog 21 [st ⟨#[105, 102, 40, 120, 32, 60, 32, 49, 44, 32, 50, 44, 32, 120, 32, 60, 32, 51, 41]⟩, i64 0, i64 10, i64 15] H (.ret (bl true)) H := ok21 (l := [105, 102, 40, 120, 32, 60, 32, 49, 44, 32, 50, 44, 32, 120, 32, 60, 32, 51, 41]) (by decide) (by kernel_rfl) (by kernel_rfl)
def rt0 : List UInt8 := [103, 97, 109, 101, 32, 103, 59, 32, 112, 108, 97, 121, 101, 114, 115, 32, 53, 59, 32, 101, 110, 100, 32, 123, 32, 112, 97, 121, 32, 49, 59, 32, 125]
def rr0 : RulesP := (parseR rt0).1
theorem ra0 : Ok Tryz.prog 16 [st ⟨#[103, 97, 109, 101, 32, 103, 59, 32, 112, 108, 97, 121, 101, 114, 115, 32, 53, 59, 32, 101, 110, 100, 32, 123, 32, 112, 97, 121, 32, 49, 59, 32, 125]⟩] H (.ret (rulesV rr0)) H := ok16 (l := rt0) (by decide)
theorem rc0 : checkF rr0 = (2, 0) := by kernel_rfl
theorem rb0 : Ok Tryz.prog 10 [rulesV rr0] H (.ret (.agg [i64 2, i64 0])) H := by
 have := ok10 (H := H) (r := rr0) (okR_ok (by kernel_rfl))
 rwa [rc0] at this
def rt1 : List UInt8 := [103, 97, 109, 101, 32, 103, 59, 32, 112, 108, 97, 121, 101, 114, 115, 32, 50, 59, 32, 101, 110, 100, 32, 123, 32, 112, 97, 121, 32, 49, 44, 32, 50, 59, 32, 125]
def rr1 : RulesP := (parseR rt1).1
theorem ra1 : Ok Tryz.prog 16 [st ⟨#[103, 97, 109, 101, 32, 103, 59, 32, 112, 108, 97, 121, 101, 114, 115, 32, 50, 59, 32, 101, 110, 100, 32, 123, 32, 112, 97, 121, 32, 49, 44, 32, 50, 59, 32, 125]⟩] H (.ret (rulesV rr1)) H := ok16 (l := rt1) (by decide)
theorem rc1 : checkF rr1 = (0, 0) := by kernel_rfl
theorem rb1 : Ok Tryz.prog 10 [rulesV rr1] H (.ret (.agg [i64 0, i64 0])) H := by
 have := ok10 (H := H) (r := rr1) (okR_ok (by kernel_rfl))
 rwa [rc1] at this
def rt2 : List UInt8 := [103, 97, 109, 101, 32, 103, 59, 32, 112, 108, 97, 121, 101, 114, 115, 32, 50, 59, 32, 101, 110, 100, 32, 123, 32, 112, 97, 121, 32, 49, 59, 32, 125]
def rr2 : RulesP := (parseR rt2).1
theorem ra2 : Ok Tryz.prog 16 [st ⟨#[103, 97, 109, 101, 32, 103, 59, 32, 112, 108, 97, 121, 101, 114, 115, 32, 50, 59, 32, 101, 110, 100, 32, 123, 32, 112, 97, 121, 32, 49, 59, 32, 125]⟩] H (.ret (rulesV rr2)) H := ok16 (l := rt2) (by decide)
theorem rc2 : checkF rr2 = (3, 19) := by kernel_rfl
theorem rb2 : Ok Tryz.prog 10 [rulesV rr2] H (.ret (.agg [i64 3, i64 19])) H := by
 have := ok10 (H := H) (r := rr2) (okR_ok (by kernel_rfl))
 rwa [rc2] at this
def rt3 : List UInt8 := [103, 97, 109, 101, 32, 103, 59, 32, 112, 108, 97, 121, 101, 114, 115, 32, 50, 59, 32, 101, 110, 100, 32, 123, 32, 112, 97, 121, 32, 49, 44, 32, 49, 32, 60, 32, 50, 59, 32, 125]
def rr3 : RulesP := (parseR rt3).1
theorem ra3 : Ok Tryz.prog 16 [st ⟨#[103, 97, 109, 101, 32, 103, 59, 32, 112, 108, 97, 121, 101, 114, 115, 32, 50, 59, 32, 101, 110, 100, 32, 123, 32, 112, 97, 121, 32, 49, 44, 32, 49, 32, 60, 32, 50, 59, 32, 125]⟩] H (.ret (rulesV rr3)) H := ok16 (l := rt3) (by decide)
theorem rc3 : checkF rr3 = (10, 34) := by kernel_rfl
theorem rb3 : Ok Tryz.prog 10 [rulesV rr3] H (.ret (.agg [i64 10, i64 34])) H := by
 have := ok10 (H := H) (r := rr3) (okR_ok (by kernel_rfl))
 rwa [rc3] at this
def rt4 : List UInt8 := [103, 97, 109, 101, 32, 103, 59, 32, 112, 108, 97, 121, 101, 114, 115, 32, 49, 59, 32, 97, 58, 32, 116, 117, 114, 110, 32, 48, 32, 123, 32, 97, 99, 116, 105, 111, 110, 32, 108, 32, 123, 32, 125, 32, 103, 111, 116, 111, 32, 97, 59, 32, 125, 32, 101, 110, 100, 32, 123, 32, 112, 97, 121, 32, 48, 59, 32, 125]
def rr4 : RulesP := (parseR rt4).1
theorem ra4 : Ok Tryz.prog 16 [st ⟨#[103, 97, 109, 101, 32, 103, 59, 32, 112, 108, 97, 121, 101, 114, 115, 32, 49, 59, 32, 97, 58, 32, 116, 117, 114, 110, 32, 48, 32, 123, 32, 97, 99, 116, 105, 111, 110, 32, 108, 32, 123, 32, 125, 32, 103, 111, 116, 111, 32, 97, 59, 32, 125, 32, 101, 110, 100, 32, 123, 32, 112, 97, 121, 32, 48, 59, 32, 125]⟩] H (.ret (rulesV rr4)) H := ok16 (l := rt4) (by decide)
theorem rc4 : checkF rr4 = (9, 31) := by kernel_rfl
theorem rb4 : Ok Tryz.prog 10 [rulesV rr4] H (.ret (.agg [i64 9, i64 31])) H := by
 have := ok10 (H := H) (r := rr4) (okR_ok (by kernel_rfl))
 rwa [rc4] at this
def rt5 : List UInt8 := [103, 97, 109, 101, 32, 103, 59, 32, 112, 108, 97, 121, 101, 114, 115, 32, 49, 59, 32, 116, 117, 114, 110, 32, 48, 32, 123, 32, 97, 99, 116, 105, 111, 110, 32, 108, 32, 123, 32, 125, 32, 97, 99, 116, 105, 111, 110, 32, 108, 32, 123, 32, 125, 32, 125, 32, 101, 110, 100, 32, 123, 32, 112, 97, 121, 32, 48, 59, 32, 125]
def rr5 : RulesP := (parseR rt5).1
theorem ra5 : Ok Tryz.prog 16 [st ⟨#[103, 97, 109, 101, 32, 103, 59, 32, 112, 108, 97, 121, 101, 114, 115, 32, 49, 59, 32, 116, 117, 114, 110, 32, 48, 32, 123, 32, 97, 99, 116, 105, 111, 110, 32, 108, 32, 123, 32, 125, 32, 97, 99, 116, 105, 111, 110, 32, 108, 32, 123, 32, 125, 32, 125, 32, 101, 110, 100, 32, 123, 32, 112, 97, 121, 32, 48, 59, 32, 125]⟩] H (.ret (rulesV rr5)) H := ok16 (l := rt5) (by decide)
theorem rc5 : checkF rr5 = (8, 41) := by kernel_rfl
theorem rb5 : Ok Tryz.prog 10 [rulesV rr5] H (.ret (.agg [i64 8, i64 41])) H := by
 have := ok10 (H := H) (r := rr5) (okR_ok (by kernel_rfl))
 rwa [rc5] at this
def rt6 : List UInt8 := [103, 97, 109, 101, 32, 103, 59, 32, 112, 108, 97, 121, 101, 114, 115, 32, 49, 59, 32, 116, 117, 114, 110, 32, 48, 32, 123, 32, 97, 99, 116, 105, 111, 110, 32, 108, 32, 123, 32, 125, 32, 125]
def rr6 : RulesP := (parseR rt6).1
theorem ra6 : Ok Tryz.prog 16 [st ⟨#[103, 97, 109, 101, 32, 103, 59, 32, 112, 108, 97, 121, 101, 114, 115, 32, 49, 59, 32, 116, 117, 114, 110, 32, 48, 32, 123, 32, 97, 99, 116, 105, 111, 110, 32, 108, 32, 123, 32, 125, 32, 125]⟩] H (.ret (rulesV rr6)) H := ok16 (l := rt6) (by decide)
theorem rc6 : checkF rr6 = (3, 19) := by kernel_rfl
theorem rb6 : Ok Tryz.prog 10 [rulesV rr6] H (.ret (.agg [i64 3, i64 19])) H := by
 have := ok10 (H := H) (r := rr6) (okR_ok (by kernel_rfl))
 rwa [rc6] at this
def rt7 : List UInt8 := [103, 97, 109, 101, 32, 103, 59, 32, 112, 108, 97, 121, 101, 114, 115, 32, 49, 59, 32, 118, 97, 114, 32, 120, 32, 61, 32, 48, 59, 32, 100, 101, 97, 108, 32, 120, 32, 105, 110, 32, 48, 32, 46, 46, 32, 53, 57, 59, 32, 101, 110, 100, 32, 123, 32, 112, 97, 121, 32, 48, 59, 32, 125]
def rr7 : RulesP := (parseR rt7).1
theorem ra7 : Ok Tryz.prog 16 [st ⟨#[103, 97, 109, 101, 32, 103, 59, 32, 112, 108, 97, 121, 101, 114, 115, 32, 49, 59, 32, 118, 97, 114, 32, 120, 32, 61, 32, 48, 59, 32, 100, 101, 97, 108, 32, 120, 32, 105, 110, 32, 48, 32, 46, 46, 32, 53, 57, 59, 32, 101, 110, 100, 32, 123, 32, 112, 97, 121, 32, 48, 59, 32, 125]⟩] H (.ret (rulesV rr7)) H := ok16 (l := rt7) (by decide)
theorem rc7 : checkF rr7 = (0, 0) := by kernel_rfl
theorem rb7 : Ok Tryz.prog 10 [rulesV rr7] H (.ret (.agg [i64 0, i64 0])) H := by
 have := ok10 (H := H) (r := rr7) (okR_ok (by kernel_rfl))
 rwa [rc7] at this
def rt8 : List UInt8 := [103, 97, 109, 101, 32, 103, 59, 32, 112, 108, 97, 121, 101, 114, 115, 32, 49, 59, 32, 118, 97, 114, 32, 120, 32, 61, 32, 48, 59, 32, 100, 101, 97, 108, 32, 120, 32, 105, 110, 32, 48, 32, 46, 46, 32, 54, 48, 59, 32, 101, 110, 100, 32, 123, 32, 112, 97, 121, 32, 48, 59, 32, 125]
def rr8 : RulesP := (parseR rt8).1
theorem ra8 : Ok Tryz.prog 16 [st ⟨#[103, 97, 109, 101, 32, 103, 59, 32, 112, 108, 97, 121, 101, 114, 115, 32, 49, 59, 32, 118, 97, 114, 32, 120, 32, 61, 32, 48, 59, 32, 100, 101, 97, 108, 32, 120, 32, 105, 110, 32, 48, 32, 46, 46, 32, 54, 48, 59, 32, 101, 110, 100, 32, 123, 32, 112, 97, 121, 32, 48, 59, 32, 125]⟩] H (.ret (rulesV rr8)) H := ok16 (l := rt8) (by decide)
theorem rc8 : checkF rr8 = (2, 30) := by kernel_rfl
theorem rb8 : Ok Tryz.prog 10 [rulesV rr8] H (.ret (.agg [i64 2, i64 30])) H := by
 have := ok10 (H := H) (r := rr8) (okR_ok (by kernel_rfl))
 rwa [rc8] at this
def rt9 : List UInt8 := [103, 97, 109, 101, 32, 103, 59, 32, 112, 108, 97, 121, 101, 114, 115, 32, 52, 59, 32, 101, 110, 100, 32, 123, 32, 112, 97, 121, 32, 48, 44, 32, 48, 44, 32, 48, 44, 32, 48, 59, 32, 125]
def rr9 : RulesP := (parseR rt9).1
theorem ra9 : Ok Tryz.prog 16 [st ⟨#[103, 97, 109, 101, 32, 103, 59, 32, 112, 108, 97, 121, 101, 114, 115, 32, 52, 59, 32, 101, 110, 100, 32, 123, 32, 112, 97, 121, 32, 48, 44, 32, 48, 44, 32, 48, 44, 32, 48, 59, 32, 125]⟩] H (.ret (rulesV rr9)) H := ok16 (l := rt9) (by decide)
theorem rc9 : checkF rr9 = (0, 0) := by kernel_rfl
theorem rb9 : Ok Tryz.prog 10 [rulesV rr9] H (.ret (.agg [i64 0, i64 0])) H := by
 have := ok10 (H := H) (r := rr9) (okR_ok (by kernel_rfl))
 rwa [rc9] at this
theorem ok7 : Ok Tryz.prog 7 [] H (.ret (bl true)) H := by
 refine ok_fn hm Tryz.func7 c7 (by simp) fun hcl => ?_
 simp -implicitDefEqProofs [i7, r7]
 refine call_go ex0 ?_
 simp -implicitDefEqProofs
 refine callq_go (fun _ => ex1) ?_
 simp -implicitDefEqProofs
 refine callq_go (fun _ => ra0) ?_
 simp -implicitDefEqProofs
 refine callq_st (fun _ => rb0) ?_
 simp -implicitDefEqProofs
 exact cv_id
theorem ok15 : Ok Tryz.prog 15 [] H (.ret (bl true)) H := by
 refine ok_fn hm Tryz.func15 c15 (by simp) fun hcl => ?_
 simp -implicitDefEqProofs [i15, r15]
 refine call_go ex2 ?_
 simp -implicitDefEqProofs
 refine callq_go (fun _ => ex3) ?_
 simp -implicitDefEqProofs
 refine callq_go (fun _ => ex4) ?_
 simp -implicitDefEqProofs
 refine callq_go (fun _ => ex5) ?_
 simp -implicitDefEqProofs
 refine callq_go (fun _ => ex6) ?_
 simp -implicitDefEqProofs
 refine call_go (ra1) ?_
 simp -implicitDefEqProofs
 refine call_go (rb1) ?_
 simp -implicitDefEqProofs
 refine callq_go (fun _ => ra2) ?_
 simp -implicitDefEqProofs
 refine callq_st (fun _ => rb2) ?_
 simp -implicitDefEqProofs
 refine callq_go (fun _ => ra3) ?_
 simp -implicitDefEqProofs
 refine callq_st (fun _ => rb3) ?_
 simp -implicitDefEqProofs
 refine call_go (ra4) ?_
 simp -implicitDefEqProofs
 refine call_go (rb4) ?_
 simp -implicitDefEqProofs
 refine callq_go (fun _ => ra5) ?_
 simp -implicitDefEqProofs
 refine callq_st (fun _ => rb5) ?_
 simp -implicitDefEqProofs
 refine callq_go (fun _ => ra6) ?_
 simp -implicitDefEqProofs
 refine callq_st (fun _ => rb6) ?_
 simp -implicitDefEqProofs
 refine call_go (ra7) ?_
 simp -implicitDefEqProofs
 refine call_go (rb7) ?_
 simp -implicitDefEqProofs
 refine callq_go (fun _ => ra8) ?_
 simp -implicitDefEqProofs
 refine callq_st (fun _ => rb8) ?_
 simp -implicitDefEqProofs
 refine callq_go (fun _ => ra9) ?_
 simp -implicitDefEqProofs
 refine callq_st (fun _ => rb9) ?_
 simp -implicitDefEqProofs
 refine call_go ok7 ?_
 simp -implicitDefEqProofs
 exact cv_id
end
end Go.Proofs.YthmdmnfojbnobaaGreatDoor
namespace Go.Proofs.YthmdmnfojbnobaaGreatDoor
open Go.Ab Go.ChangeShapes Go.WideShapes Go.ChangeAt Go.RowKit
def laid3 : List (String × DataW Unit) := [("errors.errorType", Rows.laid_errors_errorType)]
theorem own : ownKnob Tryz.prog.godebug = none := by kernel_rfl
theorem laidOut : laidOutB Tryz.prog = true := by kernel_rfl
theorem gE : Tryz.prog.globalNamed "errors.errorType" = some 0 := by kernel_rfl
theorem rtE : (Tryz.prog.cutTypes.find? (·.1 == "internal/reflectlite.rtype")).map (·.2) = some 161 := by kernel_rfl
theorem size : Tryz.prog.types.size = 208 := by kernel_rfl
theorem oneRow : ((List.range 208).filter fun t => Tryz.prog.rowNamed t [101, 114, 114, 111, 114]) = [70] := by kernel_rfl
theorem door_met (os : Os) (args : Array Value) : laidMetH Tryz.prog laid3 ((World.doorLaid Tryz.prog 400 os).forCall (fun _ _ => 0) ⟨#[], args, []⟩).memory :=
 laidMetH_of_parts3 (fuel := 8) (laidMet_of_run' 8 (by kernel_rfl) (by kernel_rfl)) (by kernel_rfl) (by kernel_rfl)
theorem gl_of {W : World} (h : laidMetH Tryz.prog laid3 W) : (st0 W).GL := by
 have h' : laidMet Tryz.prog [] W ∧ handlesMet Tryz.prog [("errors.errorType", Rows.laid_errors_errorType)] W := h
 obtain ⟨_, hh⟩ := h'
 obtain ⟨name, u, ty, e1, e2, e3, e4, e5⟩ := hh _ (List.mem_singleton.2 rfl)
 have en : name = [101, 114, 114, 111, 114] := (Option.some.inj e1).symm
 subst en
 obtain rfl := Option.some.inj (rtE.symm.trans e2)
 have hm : ty ∈ (List.range 208).filter fun t => Tryz.prog.rowNamed t [101, 114, 114, 111, 114] := List.mem_filter.2 ⟨List.mem_range.2 (by rw [← size]; exact e3), e4⟩
 rw [oneRow] at hm
 obtain rfl := List.mem_singleton.1 hm
 have hh : typeHandle Tryz.prog 70 = .pointer (some ⟨1, 70, none⟩) := by kernel_rfl
 rw [hh] at e5
 have key : ∀ (g : Nat) (nm : String) (cs : Array Value) (us : List Value), Tryz.prog.globalNamed nm = some g -> W.var? Tryz.prog nm = some cs -> cs.toList = us -> (st0 W).Imm ⟨g, 0, none⟩ us := by
  intro g nm cs us h1 h2 h3
  refine ⟨fun j u hj => ?_, fun _ => rw0 W _⟩
  have := World.var?_cell h1 h2 j
  have e : ((⟨g, 0, none⟩ : Addr).add j) = ⟨g, j, none⟩ := by unfold Addr.add; split <;> simp_all
  rw [e]
  show W.cell? _ = _
  rw [this, <- Array.getElem?_toList, h3]; exact hj
 intro g us hg
 match g, hg with
 | 0, hg => cases hg; exact key 0 _ _ _ gE e5 rfl
end Go.Proofs.YthmdmnfojbnobaaGreatDoor
namespace Go.Proofs.YthmdmnfojbnobaaGreatDoor
open Go.Ab
section
variable {H : List AO}
theorem stg_0 {l : List StageP} {i : Nat} (h : i < l.length) : (rws StageP.c l)[i * 12]? = some (i64 l[i].k) := by
 have := rws_get (t := 0) StageP.c_len h (by omega); rw [Nat.add_zero] at this; rw [this]; rfl
theorem stg_9 {l : List StageP} {i : Nat} (h : i < l.length) : (rws StageP.c l)[i * 12 + 9]? = some (.slc (rws ActP.c l[i].acts) l[i].acts.length) := by rw [rws_get StageP.c_len h (by omega)]; rfl
end
end Go.Proofs.YthmdmnfojbnobaaGreatDoor
namespace Go.Proofs.YthmdmnfojbnobaaGreatDoor
open Go.Ab
end Go.Proofs.YthmdmnfojbnobaaGreatDoor
namespace Go.Proofs.YthmdmnfojbnobaaGreatDoor
open Go.Ab
end Go.Proofs.YthmdmnfojbnobaaGreatDoor
namespace Go.Proofs.YthmdmnfojbnobaaGreatDoor
open Go.Ab
end Go.Proofs.YthmdmnfojbnobaaGreatDoor
namespace Go.Proofs.YthmdmnfojbnobaaGreatDoor
open Go.Ab
end Go.Proofs.YthmdmnfojbnobaaGreatDoor
namespace Go.Proofs.YthmdmnfojbnobaaGreatDoor
open Go.Ab
end Go.Proofs.YthmdmnfojbnobaaGreatDoor
namespace Go.Proofs.YthmdmnfojbnobaaGreatDoor
open Go.Ab
end Go.Proofs.YthmdmnfojbnobaaGreatDoor
namespace Go.Proofs.YthmdmnfojbnobaaGreatDoor
open Go.Ab
end Go.Proofs.YthmdmnfojbnobaaGreatDoor
namespace Go.Proofs.YthmdmnfojbnobaaGreatDoor
open Go.Ab
end Go.Proofs.YthmdmnfojbnobaaGreatDoor
namespace Go.Proofs.YthmdmnfojbnobaaGreatDoor
open Go.Ab
def goT (l : List StageP) (i : Int) (s : List UInt8) : Int × Int := if s = [] then (IntKind.i64.wrap (i + 1), 0) else if 0 ≤ findF l s then (findF l s, 0) else (0, 7)
def actT (l : List StageP) (i act : Int) (x : StageP) : Int × Int := if x.k ≠ 2 ∨ act < 0 then (0, 2) else match x.acts[act.toNat]? with
 | none => (0, 2)
 | some a => goT l i a.go
def tgtF (l : List StageP) (i act : Int) : Int × Int := if i < 0 then (0, 2) else match l[i.toNat]? with
 | none => (0, 2)
 | some x => actT l i act x
theorem act_4 {l : List ActP} {i : Nat} (h : i < l.length) : (rws ActP.c l)[i * 6 + 4]? = some (st (B l[i].go)) := by rw [rws_get ActP.c_len h (by omega)]; rfl
section
variable {H : List AO} {r : RulesP}
set_option maxRecDepth 100000 in
theorem ok8 (hl : r.stages.length < 4611686018427387904) (ha : ∀ x ∈ r.stages, x.acts.length < 4611686018427387904) (i act : Int) : Ok Tryz.prog 8 [rulesV r, i64 i, i64 act] H (.ret (.tup [i64 (tgtF r.stages i act).1, i64 (tgtF r.stages i act).2])) H := by
 refine ok_fn hm Tryz.func8 c8 (by simp) fun hcl => ?_
 generalize hw : tgtF r.stages i act = w
 unfold tgtF at hw
 by_cases h0 : i < 0
 · rw [if_pos h0] at hw
   subst hw
   simp -implicitDefEqProofs [i8, r8, rulesV, RulesP.c, h0]
   refine cv_fz 4 hcl rfl ?_
   simp
 rw [if_neg h0] at hw
 obtain ⟨n, rfl⟩ := Int.eq_ofNat_of_zero_le (by omega : 0 ≤ i)
 rw [Int.toNat_natCast] at hw
 by_cases h1 : n < r.stages.length
 · rw [List.getElem?_eq_getElem h1] at hw
   simp only at hw
   unfold actT at hw
   have h1' : (n : Int) < r.stages.length := by omega
   have h1b : ¬ (r.stages.length : Int) ≤ n := by omega
   have hax := ha _ (List.getElem_mem h1)
   have g0 : ∀ h, (rws StageP.c r.stages)[n * 12]'(h) = i64 r.stages[n].k := fun h => Option.some.inj ((List.getElem?_eq_getElem h).symm.trans (stg_0 h1))
   have g0' := stg_0 h1
   have g9 := stg_9 h1
   have hg := rws_c StageP.c_len h1
   have hlen := rws_len StageP.c_len r.stages
   have hmin : min 12 (r.stages.length * 12 - n * 12) = 12 := by omega
   generalize r.stages[n] = x at hw g0 g0' g9 hax hg
   by_cases hk : x.k = 2
   · by_cases hn : act < 0
     · rw [if_pos (.inr hn)] at hw
       subst hw
       simp -implicitDefEqProofs [i8, r8, rulesV, RulesP.c, h0, h1, h1', h1b, g0, g0', g9, hlen, hk, hn, hg, hmin, StageP.c, exS]
       refine ⟨by omega, by omega, cv_fz 4 hcl rfl ?_⟩
       simp
     rw [if_neg (by omega)] at hw
     obtain ⟨m, rfl⟩ := Int.eq_ofNat_of_zero_le (by omega : 0 ≤ act)
     rw [Int.toNat_natCast] at hw
     by_cases h2 : m < x.acts.length
     · rw [List.getElem?_eq_getElem h2] at hw
       simp only at hw
       unfold goT at hw
       have h2' : (m : Int) < x.acts.length := by omega
       have h2b : ¬ (x.acts.length : Int) ≤ m := by omega
       have g4 := act_4 h2
       have hlen2 := rws_len ActP.c_len x.acts
       generalize x.acts[m] = a at hw g4
       by_cases hgo : a.go = []
       · rw [if_pos hgo] at hw
         subst hw
         rw [hgo] at g4
         generalize hws : IntKind.i64.wrap ((n : Int) + 1) = ws
         simp -implicitDefEqProofs [hws, i8, r8, rulesV, RulesP.c, h0, h1, h1', h1b, g0, g0', g9, hlen, hk, hn, h2, h2', h2b, g4, hlen2, hg, hmin, StageP.c, exS]
         refine ⟨by omega, by omega, by omega, cv_fz 4 hcl rfl ?_⟩
         simp
       · rw [if_neg hgo] at hw
         simp -implicitDefEqProofs [i8, r8, rulesV, RulesP.c, h0, h1, h1', h1b, g0, g0', g9, hlen, hk, hn, h2, h2', h2b, g4, hlen2, hgo, hg, hmin, StageP.c, exS]
         refine ⟨by omega, by omega, by omega, call_of (a := [stgsV r.stages]) (b := []) (ok22 hl a.go) ?_⟩
         generalize findF r.stages a.go = t at hw
         by_cases ht : 0 ≤ t
         · rw [if_pos ht] at hw
           subst hw
           have ht' : ¬ t < 0 := by omega
           simp -implicitDefEqProofs [ht, ht']
           refine cv_fz 4 hcl rfl ?_
           simp
         · rw [if_neg ht] at hw
           subst hw
           have ht' : t < 0 := by omega
           simp -implicitDefEqProofs [ht, ht']
           refine cv_fz 4 hcl rfl ?_
           simp
     · rw [List.getElem?_eq_none (by omega)] at hw
       simp only at hw
       subst hw
       have h2' : ¬ (m : Int) < x.acts.length := by omega
       have h2b : (x.acts.length : Int) ≤ m := by omega
       simp -implicitDefEqProofs [i8, r8, rulesV, RulesP.c, h0, h1, h1', h1b, g0, g0', g9, hlen, hk, hn, h2, h2', h2b, hg, hmin, StageP.c, exS]
       refine ⟨by omega, by omega, cv_fz 4 hcl rfl ?_⟩
       simp
   · rw [if_pos (.inl hk)] at hw
     subst hw
     simp -implicitDefEqProofs [i8, r8, rulesV, RulesP.c, h0, h1, h1', h1b, g0, g0', hlen, hk, hg, hmin, StageP.c, exS]
     refine ⟨by omega, cv_fz 4 hcl rfl ?_⟩
     simp
 · rw [List.getElem?_eq_none (by omega)] at hw
   simp only at hw
   subst hw
   have h1' : ¬ (n : Int) < r.stages.length := by omega
   have h1b : (r.stages.length : Int) ≤ n := by omega
   simp -implicitDefEqProofs [i8, r8, rulesV, RulesP.c, h0, h1, h1', h1b]
   refine cv_fz 4 hcl rfl ?_
   simp
end
end Go.Proofs.YthmdmnfojbnobaaGreatDoor
namespace Go.Proofs.YthmdmnfojbnobaaGreatDoor
open Go.Ab
section
variable {H : List AO} {r : RulesP}
theorem loop12 {x y : SV} {l l' : List (List UInt8)} (hx : IsS H x l) (hy : IsS H y l') (hl : l.length < 4611686018427387904) (he : l.length = l'.length) {N : Nat} {K : XE -> Env -> List AO -> Prop}
 (hret : l ≠ l' -> ∀ env, env.get 4 = bl false -> K .ret env H) (hexit : l = l' -> ∀ env, K (.exit 0) env H) :
 ∀ (m i : Nat) (env : Env), i + m = l.length -> (l = l' ↔ l.drop i = l'.drop i) -> env.get 0 = x -> env.get 1 = y -> env.get 5 = i64 i -> LI Tryz.prog N drawB l12_0 env H K := by
 intro m
 induction m with
 | zero =>
  intro i env hi hq h0 h1 h5
  refine li_go hm l12_0.eq_1 ?_
  have e : i = l.length := by omega
  subst e
  rw [List.drop_length, List.drop_of_length_le (by omega)] at hq
  simp -implicitDefEqProofs [h0, h1, h5, hx.vd, hx.ug, hx.sl, hx.len, hy.vd, hy.ug, hy.sl, hy.len]
  exact hexit (hq.2 rfl) _
 | succ m ih =>
  intro i env hi hq h0 h1 h5
  refine li_go hm l12_0.eq_1 ?_
  have hlt : i < l.length := by omega
  have hlt' : (i : Int) < l.length := by omega
  have hlt2 : i < l'.length := by omega
  have hlt2' : (i : Int) < l'.length := by omega
  rw [List.drop_eq_getElem_cons hlt, List.drop_eq_getElem_cons hlt2] at hq
  have hv := hx.vA [] hlt
  have ho := hx.okA [] hlt
  have hv2 := hy.vA [] hlt2
  have ho2 := hy.okA [] hlt2
  simp only [List.append_nil] at hv ho hv2 ho2
  generalize l[i] = v at hq hv
  generalize l'[i] = u at hq hv2
  by_cases hs : v = u
  · subst hs
    simp -implicitDefEqProofs [h0, h1, h5, hlt, hlt', hlt2, hlt2', hx.vd, hx.ug, hx.sl, hx.cell, hx.sz, hx.len, hv, ho, hy.vd, hy.ug, hy.sl, hy.cell, hy.sz, hy.len, hv2, ho2]
    refine ih (i + 1) _ (by omega) ?_ ?_ ?_ ?_
    · rw [hq]; simp
    all_goals simp [h0, h1, wrap_suc (show i < 9223372036854775807 by omega)]
  · have hne : l ≠ l' := fun h => hs (by have := hq.1 h; simpa using (List.cons.inj this).1)
    simp -implicitDefEqProofs [h0, h1, h5, hlt, hlt', hlt2, hlt2', hx.vd, hx.ug, hx.sl, hx.cell, hx.sz, hx.len, hv, ho, hy.vd, hy.ug, hy.sl, hy.cell, hy.sz, hy.len, hv2, ho2, hs]
    exact hret hne _ (by simp)
theorem ok12 {x y : SV} {l l' : List (List UInt8)} (hx : IsS H x l) (hy : IsS H y l') (hl : l.length < 4611686018427387904) (hl2 : l'.length < 4611686018427387904) : Ok Tryz.prog 12 [x, y] H (.ret (bl (decide (l = l')))) H := by
 refine ok_fn hm Tryz.func12 c12 (by simp [hx.vd, hy.vd]) fun hcl => ?_
 by_cases he : l.length = l'.length
 · simp -implicitDefEqProofs [i12, r12, hx.vd, hx.ug, hx.sl, hx.len, hy.vd, hy.ug, hy.sl, hy.len, he]
   refine loop12 hx hy hl he (fun hs env h4 => ?_) (fun hs env => ?_) l.length 0 _ (by omega) (by simp) ?_ ?_ ?_
   · simp -implicitDefEqProofs [h4, hs]
     exact cv_id
   · simp -implicitDefEqProofs [hs]
     exact cv_id
   all_goals simp
 · have he' : ¬ (l.length : Int) = l'.length := by omega
   have hne : l ≠ l' := fun h => he (by rw [h])
   simp -implicitDefEqProofs [i12, r12, hx.vd, hx.ug, hx.sl, hx.len, hy.vd, hy.ug, hy.sl, hy.len, he', hne]
   exact cv_id
end
end Go.Proofs.YthmdmnfojbnobaaGreatDoor
namespace Go.Proofs.YthmdmnfojbnobaaGreatDoor
open Go.Ab
end Go.Proofs.YthmdmnfojbnobaaGreatDoor
namespace Go.Proofs.YthmdmnfojbnobaaGreatDoor
open Go.Ab
end Go.Proofs.YthmdmnfojbnobaaGreatDoor
namespace Go.Proofs.YthmdmnfojbnobaaGreatDoor
open Go.Ab
end Go.Proofs.YthmdmnfojbnobaaGreatDoor
namespace Go.Proofs.YthmdmnfojbnobaaGreatDoor
open Go.Ab
end Go.Proofs.YthmdmnfojbnobaaGreatDoor
namespace Go.Proofs.YthmdmnfojbnobaaGreatDoor
open Go.Ab
end Go.Proofs.YthmdmnfojbnobaaGreatDoor
namespace Go.Proofs.YthmdmnfojbnobaaGreatDoor
open Go Go.Ab Go.ChangeShapes Go.WideShapes Go.ChangeAt Go.RowKit
theorem leaves_of_alone {P : Program} {last : Machine} {w : World} {t : Trace} (h : aloneAtReturn P last w t) : leavingAtReturn P last w t := by
 obtain ⟨⟨h1, h2⟩, h3, h4⟩ := h
 refine ⟨h3, ⟨fun g hg => ⟨0, ?_⟩, h2⟩, h4⟩
 unfold Machine.othersDone at h1
 have h5 := List.all_eq_true.1 h1 g hg
 show g.status = .finished
 exact beq_iff_eq.1 h5
theorem leaving_of_handed {a : Assume} {C : Checked} {os : Os} {f : FuncId} {r : Reach} {Pre : World -> Array Value -> Prop} {Post : World -> Array Value -> Value -> World -> Prop}
 (h : ReturnsInHanded a C os f r Pre Post) : ReturnsInLeavingWide a C os f r Pre Post := fun e =>
 ReturnsInOpen.mono (fun _ _ _ x => leaves_of_alone x) (fun _ x => x) (h e)
theorem tied_goes (Lk : Looks) {p : Pinned} {s : OpenSpec} {c : OpenClaim} (kinds : List LaidKind) (tests : Bool) (har : Bool × String) (lk : Bool)
 (hc : c.holds p s) (hw : c.wfByText s = true)
 (htie : c.laidByTextAt Lk p kinds tests)
 (hst : c.start = .entering) (hnb : c.noBlocks = false ∧ c.again = false) (hm : p.checked.prog.mainIs = some (har.1, har.2.toList)) (hn : (!har.1 && har.2.isEmpty && !lk) = false)
 (hl : ∀ f fn, p.checked.prog.funcNamed c.func = some f -> p.checked.prog.funcs[f]? = some fn -> lk = p.checked.prog.looks [] ∧ ∀ (j : Nat) t, fn.params[j]? = some t -> p.checked.prog.wantsStandIn t = false)
 (hg : true = c.goesBy p.checked.prog) :
 Claim7.holds p (.plain s) { stood := { row := c, standIns := [], harness := har, looks := lk }, kinds := [], alts := [], goes := true, laidByText := true, laidKinds := kinds, laidTests := tests, laidLooks := Lk } := by
 have h6 : ∀ r : OpenClaim, Claim7.isSixth { stood := { row := r, standIns := [], harness := har, looks := lk }, kinds := [] } = false := fun r => by simpa [Claim7.isSixth] using hn
 exact ⟨Claim7.tied_new_at Lk kinds tests (Claim7.new_of_sixth hc har lk hst hnb hm (h6 c) hl) hw, (fun D hD => by cases hD), htie, (fun h => by cases h), hg⟩
end Go.Proofs.YthmdmnfojbnobaaGreatDoor
namespace Go.Proofs.YthmdmnfojbnobaaGreatDoor
open Go Go.Ab
noncomputable def fieldT (t : TypeId) : Option (List TypeId) := match Tryz.prog.underlying t with
 | some (.struct fs) => some (fs.toList.map (·.type))
 | _ => none
theorem f25 : fieldT 25 = some [9, 3, 22, 23] := by kernel_rfl
theorem f53 : fieldT 53 = some [3, 3, 9, 42, 3] := by kernel_rfl
theorem f51 : fieldT 51 = some [9, 42, 4, 49, 9, 3] := by kernel_rfl
theorem f55 : fieldT 55 = some [9, 53, 3] := by kernel_rfl
theorem u3 : Tryz.prog.underlying 3 = some (.int .i64) := by kernel_rfl
theorem u4 : Tryz.prog.underlying 4 = some .bool := by kernel_rfl
theorem u38 : Tryz.prog.underlying 38 = some (.slice 3) := by kernel_rfl
theorem int_of {d : Dt} (h : d.ty Tryz.prog 3) : ∃ n, d = .int .i64 n := by
 cases d with
 | int k n => have := h.1; rw [u3] at this; cases this; exact ⟨n, rfl⟩
 | bool b => have h : Tryz.prog.underlying 3 = _ := h; rw [u3] at h; cases h
 | str s => have h := h.1; rw [u3] at h; cases h
 | sl l => obtain ⟨e, h, _⟩ := h; rw [u3] at h; cases h
 | agg l => obtain ⟨e, h, _⟩ := h; rw [u3] at h; cases h
theorem sl_of {d : Dt} {t e : TypeId} (ht : Tryz.prog.underlying t = some (.slice e)) (h : d.ty Tryz.prog t) : ∃ l, d = .sl l ∧ l.length ≤ reachBytes ∧ ∀ x ∈ l, x.ty Tryz.prog e := by
 cases d with
 | int k n => have := h.1; rw [ht] at this; cases this
 | bool b => have h : Tryz.prog.underlying t = _ := h; rw [ht] at h; cases h
 | str s => have h := h.1; rw [ht] at h; cases h
 | sl l => obtain ⟨e', h, h2, h3⟩ := h; rw [ht] at h; cases h; exact ⟨l, rfl, h2, tyA_iff.1 h3⟩
 | agg l => obtain ⟨e, h, _⟩ := h; rw [ht] at h; cases h
theorem ints_of : ∀ zs : List Dt, (∀ x ∈ zs, x.ty Tryz.prog 3) -> ∃ l : List Int, Dt.cellsL zs = ints l ∧ l.length = zs.length
 | [], _ => ⟨[], rfl, rfl⟩
 | x :: r, hty => by
  obtain ⟨l, g1, g2⟩ := ints_of r (fun y hy => hty y (by simp [hy]))
  obtain ⟨n, rfl⟩ := int_of (hty x (by simp))
  exact ⟨n :: l, by simp only [Dt.cellsL, Dt.cells, g1]; rfl, by simp [g2]⟩
end Go.Proofs.YthmdmnfojbnobaaGreatDoor
namespace Go.Proofs.YthmdmnfojbnobaaGreatDoor
open Go.Ab
end Go.Proofs.YthmdmnfojbnobaaGreatDoor
namespace Go.Proofs.YthmdmnfojbnobaaGreatDoor
open Go.Ab
def decF : Nat -> Nat -> List UInt8
 | 0, n => [UInt8.ofNat (48 + n)]
 | k + 1, n => if 9 < n then decF k (n / 10) ++ [UInt8.ofNat (48 + n % 10)] else [UInt8.ofNat (48 + n)]
def decN (n : Nat) : List UInt8 := decF 18 n
theorem decF_one {k n : Nat} (h : n ≤ 9) : decF k n = [UInt8.ofNat (48 + n)] := by
 cases k with
 | zero => rfl
 | succ k => rw [decF, if_neg (by omega)]
theorem enc_dig {d : Nat} (h : d ≤ 9) : Utf8.encode ((48 : Int) + (d : Int)) = B [UInt8.ofNat (48 + d)] := by
 have : d = 0 ∨ d = 1 ∨ d = 2 ∨ d = 3 ∨ d = 4 ∨ d = 5 ∨ d = 6 ∨ d = 7 ∨ d = 8 ∨ d = 9 := by omega
 rcases this with rfl | rfl | rfl | rfl | rfl | rfl | rfl | rfl | rfl | rfl <;> decide
theorem B_cat (a b : List UInt8) : B a ++ B b = B (a ++ b) := by
 apply ByteArray.ext
 show (B a ++ B b).data = _
 rw [ByteArray.data_append]; simp
end Go.Proofs.YthmdmnfojbnobaaGreatDoor
namespace Go.Proofs.YthmdmnfojbnobaaGreatDoor
open Go.Ab
section
variable {H : List AO}
theorem tmod_fix {x n : Int} (hn : 1 ≤ n) : (if x.tmod n < 0 then x.tmod n + n else x.tmod n) = x % n := by
 rw [Int.tmod_eq_emod]
 have h1 := Int.emod_nonneg x (show n ≠ 0 by omega)
 have h2 := Int.emod_lt_of_pos x (show 0 < n by omega)
 have h3 : n ∣ x -> x % n = 0 := Int.emod_eq_zero_of_dvd
 split
 · split
   · omega
   · simp
 · rename_i h
   have h4 : (n.natAbs : Int) = n := by omega
   split
   · omega
   · rename_i h5
     have : ¬ n ∣ x := fun hd => h (.inr hd)
     have : x % n ≠ 0 := fun e => this (Int.dvd_of_emod_eq_zero e)
     omega
theorem tmod_bd {x n : Int} (hn : 1 ≤ n) : -n < x.tmod n ∧ x.tmod n < n := by
 have h1 := Int.tmod_lt_of_pos x (show 0 < n by omega)
 have h2 : -(x.tmod n) < n := by rw [← Int.neg_tmod]; exact Int.tmod_lt_of_pos _ (by omega)
 omega
theorem ok18 (x n : Int) (h1 : 1 ≤ n) (h2 : n ≤ 9223372036854775807) : Ok Tryz.prog 18 [i64 x, i64 n] H (.ret (i64 (x % n))) H := by
 refine ok_fn hm Tryz.func18 c18 (by simp) fun hcl => ?_
 have hb := tmod_bd (x := x) h1
 have hf := tmod_fix (x := x) h1
 simp -implicitDefEqProofs [i18, r18, show ¬ n = 0 by omega]
 split
 · rename_i h
   rw [if_pos h] at hf
   rw [wrap_id (by omega) (by omega), hf]; exact cv_id
 · rename_i h
   rw [if_neg h] at hf
   rw [hf]; exact cv_id
def drO (l : List Int) (a : Nat) : AO := ⟨[.slc (ints l) l.length, i64 a], 84, 0, true⟩
def nx (l : List Int) (a n : Nat) : Nat × Nat := if l.length ≤ a ∨ n < 1 then (0, a) else ((l.getD a 0 % (n : Int)).toNat, a + 1)
theorem nx_le {l : List Int} {a n : Nat} (h : a ≤ l.length) : (nx l a n).2 ≤ l.length := by unfold nx; split <;> simp <;> omega
theorem nx_lt {l : List Int} {a n : Nat} (h : 1 ≤ n) : (nx l a n).1 < n := by
 unfold nx
 split
 · simp; omega
 · have h1 := Int.emod_nonneg (l.getD a 0) (show (n : Int) ≠ 0 by omega)
   have h2 := Int.emod_lt_of_pos (l.getD a 0) (show 0 < (n : Int) by omega)
   simp only; omega
theorem ok37 {j : Nat} {l : List Int} {a : Nat} (ho : H[j]? = some (drO l a)) (ha : a ≤ l.length) (hl : l.length < 4611686018427387904) (n : Nat) (hn : n ≤ 9223372036854775807) :
 Ok Tryz.prog 37 [rp j, i64 n] H (.ret (i64 ((nx l a n).1 : Nat))) (H.set j (drO l (nx l a n).2)) := by
 have e1 : objCells H j 0 = [.slc (ints l) l.length, i64 a] := objCells_of (o := drO l a) ho rfl
 have e2 : ∀ f : AO -> AO, Ab.setObj H j f = H.set j (f (drO l a)) := fun f => setObj_some ho f
 have e3 : ∀ o : AO, o.live = true -> o.ver = 0 -> objCells (H.set j o) j 0 = o.cells := by
  intro o h1 h2
  have := objCells_of (H := H.set j o) (i := j) (o := o) (by rw [List.getElem?_set_self (getElem?_lt ho)]) h1
  rw [h2] at this; exact this
 have e4 : H.set j (drO l a) = H := by
  apply List.ext_getElem?
  intro i
  by_cases h : j = i
  · subst h; rw [List.getElem?_set_self (getElem?_lt ho), ho]
  · rw [List.getElem?_set_ne h]
 refine ok_fn hm Tryz.func37 c37 (by simp) fun hcl => ?_
 by_cases h1 : l.length ≤ a
 · simp -implicitDefEqProofs [i37, r37, e1, h1, show (l.length : Int) ≤ a by omega, nx, e4, rp]
   exact cv_id
 · by_cases h2 : n < 1
   · simp -implicitDefEqProofs [i37, r37, e1, h1, show ¬ (l.length : Int) ≤ a by omega, nx, e4, show n = 0 by omega, rp]
     exact cv_id
   · have hlt : a < l.length := by omega
     have e5 : IntKind.i64.wrap ((a : Int) + 1) = (a : Int) + 1 := wrap_suc (by omega)
     have e6 : IntKind.i64.wrap (a : Int) = (a : Int) := wrap_nat (by omega)
     have hp : ¬ n = 0 := by omega
     have hp2 : ¬ (n : Int) < 1 := by omega
     simp -implicitDefEqProofs [i37, r37, e1, h1, show ¬ (l.length : Int) ≤ a by omega, nx, e2, hp, hp2, drO, e3, e5, e6, hlt, rp]
     refine ⟨by omega, ?_⟩
     refine callq_go (fun _ => ok18 l[a] n (by omega) (by omega)) ?_
     have := Int.emod_nonneg l[a] (show (n : Int) ≠ 0 by omega)
     simp -implicitDefEqProofs [show max (l[a] % (n : Int)) 0 = l[a] % (n : Int) by omega]
     exact cv_id
def dg (n : Nat) : List UInt8 := [UInt8.ofNat (48 + n)]
theorem ok38 {n : Nat} (h : n ≤ 9) : Ok Tryz.prog 38 [i64 n] H (.ret (st (B (dg n)))) H := by
 refine ok_fn hm Tryz.func38 c38 (by simp) fun hcl => ?_
 have he : Utf8.encode ((48 : Int) + (n : Int)) = B (dg n) := enc_dig h
 have hd : (dg n).length = 1 := rfl
 have hz : n = 0 -> dg n = [48] := fun h => by subst h; rfl
 generalize dg n = t at he hd hz ⊢
 have hr : ∀ {N : Nat} {env : Env} {K : XE -> Env -> List AO -> Prop} {tx : List UInt8}, env.get 4 = i64 0 -> env.get 3 = st (B tx) -> (∀ env, env.get 3 = st (B tx) -> env.get 0 = i64 n -> K (.exit 0) env H) -> env.get 0 = i64 n -> LI Tryz.prog N drawB l38_0 env H K := by
  intro N env K tx h4 h3 hk h0
  refine li_go hm l38_0.eq_1 ?_
  simp -implicitDefEqProofs [h4]
  refine hk _ ?_ ?_
  · simp [h3]
  · simp [h0]
 by_cases h0 : n = 0
 · subst h0
   simp -implicitDefEqProofs [i38, r38]
   refine hr (tx := []) rfl rfl (fun env h3 h0 => ?_) (by simp)
   rw [hz rfl]
   simp -implicitDefEqProofs [h3, h0]
   exact cv_id
 · have g1 : ¬ (n : Int) = 0 := by omega
   simp -implicitDefEqProofs [i38, r38]
   refine li_go hm l38_0.eq_1 ?_
   have t1 : (n : Int).tmod 10 = n := by rw [Int.tmod_eq_emod_of_nonneg (by omega)]; omega
   have t2 : (n : Int).tdiv 10 = 0 := by rw [Int.tdiv_eq_ediv_of_nonneg (by omega)]; omega
   have w2 : IntKind.i64.wrap (-(n : Int)) = -n := wrap_id (by omega) (by omega)
   have w3 : IntKind.i64.wrap (48 + (n : Int)) = 48 + (n : Int) := wrap_id (by omega) (by omega)
   have w4 : IntKind.i32.wrap (48 + (n : Int)) = 48 + (n : Int) := by unfold IntKind.wrap; simp [IntKind.bits, IntKind.signed]; omega
   have w6 : max (n : Int) (-n) = n := by omega
   simp -implicitDefEqProofs [g1, h0, t1, t2, w2, w3, w4, w6, he, B_size, hd]
   refine ⟨⟨rfl, by show (B t).size ≤ _; rw [B_size, hd]; decide⟩, ?_⟩
   have e0 : (SV.val (Value.string (B t))).str ++ { data := #[] } = B t := by
    show B t ++ ByteArray.empty = B t
    apply ByteArray.ext; simp
   refine hr (tx := t) ?_ ?_ (fun env h3 h00 => ?_) ?_
   · simp -implicitDefEqProofs [show IntKind.i64.wrap 0 = 0 from rfl]
   · simp -implicitDefEqProofs [e0]
   · simp -implicitDefEqProofs [h3, h00, g1, h0]
     exact cv_id
   · simp
end
end Go.Proofs.YthmdmnfojbnobaaGreatDoor
namespace Go.Proofs.YthmdmnfojbnobaaGreatDoor
open Go.Ab
def vN (x : Nat) : List UInt8 := [118] ++ dg x
structure GX where
 k : Nat
 x : Nat
 y : Nat
def gx (l : List Int) (v n a : Nat) : GX × Nat :=
 (⟨(nx l (nx l (nx l a v).2 v).2 n).1, (nx l a v).1, (nx l (nx l a v).2 v).1⟩, (nx l (nx l (nx l a v).2 v).2 n).2)
def exT (k : Nat) (x y : List UInt8) : List UInt8 :=
 if k = 0 then x ++ [32, 43, 32] ++ y
 else if k = 1 then x ++ [32, 45, 32, 50, 32, 42, 32] ++ y
 else if k = 2 then [109, 97, 120, 40] ++ x ++ [44, 32] ++ y ++ [41]
 else if k = 3 then [105, 102, 40] ++ x ++ [32, 60, 32] ++ y ++ [44, 32, 49, 44, 32, 45, 49, 41]
 else if k = 4 then [109, 105, 110, 40] ++ x ++ [44, 32, 51, 41, 32, 43, 32, 49]
 else if k = 5 then [45] ++ x
 else if k = 6 then [40] ++ x ++ [32, 43, 32, 55, 41, 32, 37, 32, 51]
 else x
def cdT (k : Nat) (x y : List UInt8) : List UInt8 :=
 if k = 0 then x ++ [32, 60, 32, 49]
 else if k = 1 then x ++ [32, 62, 61, 32] ++ y ++ [32, 97, 110, 100, 32, 110, 111, 116, 32] ++ y ++ [32, 61, 61, 32, 50]
 else if k = 2 then x ++ [32, 33, 61, 32, 48, 32, 111, 114, 32] ++ y ++ [32, 62, 32, 49]
 else [110, 111, 116, 32] ++ x ++ [32, 60, 61, 32, 48]
def exB (g : GX) : List UInt8 := exT g.k (vN g.x) (vN g.y)
def cdB (g : GX) : List UInt8 := cdT g.k (vN g.x) (vN g.y)
theorem exB_len (g : GX) : (exB g).length ≤ 40 := by
 unfold exB exT
 repeat' split
 all_goals simp [vN, dg]
theorem cdB_len (g : GX) : (cdB g).length ≤ 40 := by
 unfold cdB cdT
 repeat' split
 all_goals simp [vN, dg]
theorem gx_le {l : List Int} {v n a : Nat} (h : a ≤ l.length) : (gx l v n a).2 ≤ l.length := nx_le (nx_le (nx_le h))
section
variable {H : List AO} {j : Nat} {l : List Int} {a : Nat}
theorem set_at {o o' : AO} (ho : H[j]? = some o) : (H.set j o')[j]? = some o' := List.getElem?_set_self (getElem?_lt ho)
abbrev mvD (H : List AO) (j : Nat) (l : List Int) (a : Nat) : List AO := H.set j (drO l a)
theorem mvD_mvD (b : Nat) : mvD (mvD H j l b) j l a = mvD H j l a := List.set_set ..
theorem mvD_at (ho : H[j]? = some (drO l a)) (b : Nat) : (mvD H j l b)[j]? = some (drO l b) := set_at ho
theorem at_app (L : List AO) (ho : H[j]? = some (drO l a)) : (H ++ L)[j]? = some (drO l a) := by rw [List.getElem?_append_left (getElem?_lt ho)]; exact ho
def Dr (H : List AO) (j : Nat) (l : List Int) : Prop := ∃ a, H[j]? = some (drO l a)
theorem Dr.of (ho : H[j]? = some (drO l a)) : Dr H j l := ⟨a, ho⟩
theorem Dr.app (h : Dr H j l) (L : List AO) : Dr (H ++ L) j l := by obtain ⟨a, h⟩ := h; exact ⟨a, at_app L h⟩
theorem Dr.lt (h : Dr H j l) : j < H.length := by obtain ⟨a, h⟩ := h; exact getElem?_lt h
theorem Dr.at (h : Dr H j l) (b : Nat) (L : List AO) : (mvD H j l b ++ L)[j]? = some (drO l b) := by
 rw [List.getElem?_append_left (by rw [List.length_set]; exact h.lt)]
 exact List.getElem?_set_self h.lt
theorem Dr.mv (h : Dr H j l) (b c : Nat) (L : List AO) : mvD (mvD H j l b ++ L) j l c = mvD H j l c ++ L := by
 unfold mvD
 rw [List.set_append_left _ _ (by rw [List.length_set]; exact h.lt), List.set_set]
theorem mvD_self (ho : H[j]? = some (drO l a)) : mvD H j l a = H := by
 apply List.ext_getElem?
 intro i
 by_cases h : j = i
 · subst h; rw [List.getElem?_set_self (getElem?_lt ho), ho]
 · rw [List.getElem?_set_ne h]
variable (ho : H[j]? = some (drO l a)) (ha : a ≤ l.length) (hl : l.length < 4611686018427387904)
include ho ha hl
theorem ok37m (n : Nat) (hn : n ≤ 9223372036854775807) : Ok Tryz.prog 37 [rp j, i64 n] H (.ret (i64 ((nx l a n).1 : Nat))) (mvD H j l (nx l a n).2) := ok37 ho ha hl n hn
theorem ok71 {v : Nat} (hv : 1 ≤ v) (h3 : v ≤ 3) : Ok Tryz.prog 71 [rp j, i64 v] H (.ret (st (B (vN (nx l a v).1)))) (mvD H j l (nx l a v).2) := by
 refine ok_fn hm Tryz.func71 c71 (by simp [rp]) fun hcl => ?_
 have hx := nx_lt (l := l) (a := a) hv
 simp -implicitDefEqProofs [i71, r71]
 refine call_go (ok37m ho ha hl v (by omega)) ?_
 simp -implicitDefEqProofs
 refine call_go (ok38 (by omega)) ?_
 simp -implicitDefEqProofs [vN, B_cat, B_size, dg]
 exact cv_id
theorem ok42 {v : Nat} (hv : 1 ≤ v) (h3 : v ≤ 3) : Ok Tryz.prog 42 [rp j, i64 v] H (.ret (st (B (exB (gx l v 8 a).1)))) (mvD H j l (gx l v 8 a).2) := by
 refine ok_fn hm Tryz.func42 c42 (by simp [rp]) fun hcl => ?_
 have h1 := ok71 ho ha hl hv h3
 have h2 := ok71 (mvD_at ho _) (nx_le ha) hl hv h3 (a := (nx l a v).2)
 have h37 := ok37m (mvD_at ho _) (nx_le (nx_le ha)) hl 8 (by omega) (a := (nx l (nx l a v).2 v).2)
 have hk := nx_lt (l := l) (a := (nx l (nx l a v).2 v).2) (n := 8) (by omega)
 simp only [mvD_mvD] at h2 h37
 unfold exB gx
 generalize nx l (nx l (nx l a v).2 v).2 8 = kk at *
 generalize nx l (nx l a v).2 v = yy at *
 generalize nx l a v = xx at *
 obtain ⟨k, a3⟩ := kk
 obtain ⟨y, a2⟩ := yy
 obtain ⟨x, a1⟩ := xx
 simp only at *
 have lx : (vN x).length = 2 := rfl
 have ly : (vN y).length = 2 := rfl
 generalize vN x = tx at *
 generalize vN y = ty at *
 simp -implicitDefEqProofs [i42, r42]
 refine call_go h1 ?_
 simp -implicitDefEqProofs
 refine call_go h2 ?_
 simp -implicitDefEqProofs
 refine call_go h37 ?_
 have hk8 : k = 0 ∨ k = 1 ∨ k = 2 ∨ k = 3 ∨ k = 4 ∨ k = 5 ∨ k = 6 ∨ k = 7 := by omega
 rcases hk8 with rfl | rfl | rfl | rfl | rfl | rfl | rfl | rfl
 all_goals
  simp -implicitDefEqProofs [exT, B_cat, B_size, lx, ly]
  exact cv_id
theorem ok72 {v : Nat} (hv : 1 ≤ v) (h3 : v ≤ 3) : Ok Tryz.prog 72 [rp j, i64 v] H (.ret (st (B (cdB (gx l v 4 a).1)))) (mvD H j l (gx l v 4 a).2) := by
 refine ok_fn hm Tryz.func72 c72 (by simp [rp]) fun hcl => ?_
 have h1 := ok71 ho ha hl hv h3
 have h2 := ok71 (mvD_at ho _) (nx_le ha) hl hv h3 (a := (nx l a v).2)
 have h37 := ok37m (mvD_at ho _) (nx_le (nx_le ha)) hl 4 (by omega) (a := (nx l (nx l a v).2 v).2)
 have hk := nx_lt (l := l) (a := (nx l (nx l a v).2 v).2) (n := 4) (by omega)
 simp only [mvD_mvD] at h2 h37
 unfold cdB gx
 generalize nx l (nx l (nx l a v).2 v).2 4 = kk at *
 generalize nx l (nx l a v).2 v = yy at *
 generalize nx l a v = xx at *
 obtain ⟨k, a3⟩ := kk
 obtain ⟨y, a2⟩ := yy
 obtain ⟨x, a1⟩ := xx
 simp only at *
 have lx : (vN x).length = 2 := rfl
 have ly : (vN y).length = 2 := rfl
 generalize vN x = tx at *
 generalize vN y = ty at *
 simp -implicitDefEqProofs [i72, r72]
 refine call_go h1 ?_
 simp -implicitDefEqProofs
 refine call_go h2 ?_
 simp -implicitDefEqProofs
 refine call_go h37 ?_
 have hk4 : k = 0 ∨ k = 1 ∨ k = 2 ∨ k = 3 := by omega
 rcases hk4 with rfl | rfl | rfl | rfl
 all_goals
  simp -implicitDefEqProofs [cdT, B_cat, B_size, lx, ly]
  exact cv_id
end
section
variable {H : List AO} {j : Nat} {l : List Int} {a : Nat}
variable (hd : Dr H j l) (ha : a ≤ l.length) (hl : l.length < 4611686018427387904) (L : List AO)
include hd ha hl
theorem go37 (n : Nat) (hn : n ≤ 9223372036854775807) : Ok Tryz.prog 37 [rp j, i64 n] (mvD H j l a ++ L) (.ret (i64 ((nx l a n).1 : Nat))) (mvD H j l (nx l a n).2 ++ L) := by
 have := ok37m (hd.at a L) ha hl n hn; rwa [hd.mv] at this
theorem go71 {v : Nat} (hv : 1 ≤ v) (h3 : v ≤ 3) : Ok Tryz.prog 71 [rp j, i64 v] (mvD H j l a ++ L) (.ret (st (B (vN (nx l a v).1)))) (mvD H j l (nx l a v).2 ++ L) := by
 have := ok71 (hd.at a L) ha hl hv h3; rwa [hd.mv] at this
theorem go42 {v : Nat} (hv : 1 ≤ v) (h3 : v ≤ 3) : Ok Tryz.prog 42 [rp j, i64 v] (mvD H j l a ++ L) (.ret (st (B (exB (gx l v 8 a).1)))) (mvD H j l (gx l v 8 a).2 ++ L) := by
 have := ok42 (hd.at a L) ha hl hv h3; rwa [hd.mv] at this
theorem go72 {v : Nat} (hv : 1 ≤ v) (h3 : v ≤ 3) : Ok Tryz.prog 72 [rp j, i64 v] (mvD H j l a ++ L) (.ret (st (B (cdB (gx l v 4 a).1)))) (mvD H j l (gx l v 4 a).2 ++ L) := by
 have := ok72 (hd.at a L) ha hl hv h3; rwa [hd.mv] at this
end
end Go.Proofs.YthmdmnfojbnobaaGreatDoor
namespace Go.Proofs.YthmdmnfojbnobaaGreatDoor
open Go.Ab
theorem cAt_app {a b : List UInt8} {p : Nat} : cAt (a ++ b) (a.length + p) = cAt b p := by
 unfold cAt
 rw [List.getD_eq_getElem?_getD, List.getD_eq_getElem?_getD, List.getElem?_append_right (by omega)]
 simp
theorem cAt_left {a b : List UInt8} {p : Nat} (h : p < a.length) : cAt (a ++ b) p = cAt a p := by
 unfold cAt
 rw [List.getD_eq_getElem?_getD, List.getD_eq_getElem?_getD, List.getElem?_append_left h]
theorem runN_app {a b : List UInt8} {cs : List Int} : ∀ (n e : Nat), runN (a ++ b) cs n (a.length + e) = a.length + runN b cs n e
 | 0, e => rfl
 | n + 1, e => by
  simp only [runN, cAt_app, List.length_append]
  by_cases h : e < b.length ∧ cAt b e ∈ cs
  · rw [if_pos ⟨by omega, h.2⟩, if_pos h, Nat.add_assoc]; exact runN_app n (e + 1)
  · rw [if_neg (fun h2 => h ⟨by omega, h2.2⟩), if_neg h]
theorem runE_app {a b : List UInt8} {cs : List Int} {e : Nat} : runE (a ++ b) cs (a.length + e) = a.length + runE b cs e := by
 unfold runE
 rw [show (a ++ b).length - (a.length + e) = b.length - e by simp; omega]
 exact runN_app _ _
theorem drop_app {a b : List UInt8} {e : Nat} : (a ++ b).drop (a.length + e) = b.drop e := by
 rw [List.drop_append, List.drop_of_length_le (by omega)]
 simp
theorem cut_app {a b : List UInt8} {p q : Nat} : cut (a ++ b) (a.length + p) (a.length + q) = cut b p q := by
 unfold cut
 rw [drop_app, show a.length + q - (a.length + p) = q - p by omega]
theorem getD_app {a b : List UInt8} {p : Nat} : (a ++ b).getD (a.length + p) 0 = b.getD p 0 := by
 rw [List.getD_eq_getElem?_getD, List.getD_eq_getElem?_getD, List.getElem?_append_right (by omega)]
 simp
theorem signE_app {a b : List UInt8} {e : Nat} : signE (a ++ b) (a.length + e) = a.length + signE b e := by
 unfold signE
 rw [drop_app, getD_app]
 split
 · omega
 · split <;> omega
theorem whE_app {a b tx : List UInt8} {k : Int} {p : Nat} (h : p = 0 -> a = [] ∨ cAt a (a.length - 1) ≠ 3) : whE (a ++ b) k tx (a.length + p) = whE b k tx p := by
 unfold whE
 have e : (tx = [] ∨ k = 1 ∧ 0 < a.length + p ∧ cAt (a ++ b) (a.length + p - 1) = 3) ↔ (tx = [] ∨ k = 1 ∧ 0 < p ∧ cAt b (p - 1) = 3) := by
  by_cases hp : p = 0
  · subst hp
    rcases h rfl with h1 | h1
    · subst h1; simp
    · by_cases ha : a.length = 0
      · have : a = [] := List.eq_nil_of_length_eq_zero ha
        subst this; simp
      · have e1 : cAt (a ++ b) (a.length + 0 - 1) = cAt a (a.length - 1) := cAt_left (by omega)
        rw [e1]
        simp [h1]
  · have e1 : a.length + p - 1 = a.length + (p - 1) := by omega
    rw [e1, cAt_app]
    have : 0 < a.length + p ↔ 0 < p := by omega
    rw [this]
 simp only [e]
def Tok.mv (t : Tok) (d : Nat) : Tok := { t with p := d + t.p }
def Stp.mv (d : Nat) : Stp -> Stp
 | .skip q => .skip (d + q)
 | .tok t q => .tok (t.mv d) (d + q)
 | .flt e => .flt e
theorem mkStp_app {a b : List UInt8} {k : Int} {p q : Nat} (h : p = 0 -> a = [] ∨ cAt a (a.length - 1) ≠ 3) : mkStp (a ++ b) (a.length + p) k (a.length + q) = (mkStp b p k q).mv a.length := by
 unfold mkStp
 rw [cut_app, whE_app h]
 split <;> rfl
theorem stepT_app {a b : List UInt8} {p : Nat} (h : p = 0 -> a = [] ∨ cAt a (a.length - 1) ≠ 3) : stepT (a ++ b) (a.length + p) = (stepT b p).mv a.length := by
 unfold stepT
 rw [cAt_app, runE_app, runE_app, signE_app, getD_app, drop_app, mkStp_app h, mkStp_app h, mkStp_app h, mkStp_app h]
 split
 · simp only [Stp.mv]; rw [Nat.add_assoc]
 · split
   · rfl
   · split
     · rfl
     · split
       · rfl
       · split
         · simp only [Stp.mv]; rw [Nat.add_assoc]
         · rfl
def Ev.mv (d : Nat) : Ev -> Ev
 | .tok t => .tok (t.mv d)
 | .flt e p => .flt e (d + p)
section
variable {a b : List UInt8} {c : UInt8}
def bad : List Ev -> Bool
 | [] => false
 | .tok _ :: r => bad r
 | .flt _ _ :: _ => true
end
end Go.Proofs.YthmdmnfojbnobaaGreatDoor
namespace Go.Proofs.YthmdmnfojbnobaaGreatDoor
open Go.Ab
end Go.Proofs.YthmdmnfojbnobaaGreatDoor
namespace Go.Proofs.YthmdmnfojbnobaaGreatDoor
open Go.Ab
theorem decF_dig : ∀ (k n : Nat), n < 10 ^ (k + 1) -> ∀ c ∈ decF k n, 48 ≤ c.toNat ∧ c.toNat ≤ 57
 | 0, n, h, c, hc => by
  rw [decF, List.mem_singleton] at hc
  subst hc
  have : (UInt8.ofNat (48 + n)).toNat = 48 + n := by simp; omega
  omega
 | k + 1, n, h, c, hc => by
  rw [decF] at hc
  split at hc
  · rw [List.mem_append, List.mem_singleton] at hc
    rcases hc with hc | rfl
    · exact decF_dig k (n / 10) (by rw [Nat.pow_succ] at h; omega) c hc
    · have : (UInt8.ofNat (48 + n % 10)).toNat = 48 + n % 10 := by simp; omega
      omega
  · rw [List.mem_singleton] at hc
    subst hc
    have : (UInt8.ofNat (48 + n)).toNat = 48 + n := by simp; omega
    omega
theorem decF_pos (k n : Nat) : 0 < (decF k n).length := by
 cases k with
 | zero => simp [decF]
 | succ k => rw [decF]; split <;> simp
theorem decF_head : ∀ (k n : Nat), n < 10 ^ (k + 1) -> 0 < n -> (decF k n).getD 0 0 ≠ 48
 | 0, n, h, h0, hc => by
  rw [decF] at hc
  have : UInt8.ofNat (48 + n) = 48 := by simpa using hc
  have h2 : (UInt8.ofNat (48 + n)).toNat = 48 + n := by simp; omega
  rw [this] at h2
  have : (48 : UInt8).toNat = 48 := rfl
  omega
 | k + 1, n, h, h0, hc => by
  rw [decF] at hc
  split at hc
  · have hp := decF_pos k (n / 10)
    have e : (decF k (n / 10) ++ [UInt8.ofNat (48 + n % 10)]).getD 0 0 = (decF k (n / 10)).getD 0 0 := by
     rw [List.getD_eq_getElem?_getD, List.getD_eq_getElem?_getD, List.getElem?_append_left hp]
    rw [e] at hc
    exact decF_head k (n / 10) (by rw [Nat.pow_succ] at h; omega) (by omega) hc
  · have : UInt8.ofNat (48 + n) = 48 := by simpa using hc
    have h2 : (UInt8.ofNat (48 + n)).toNat = 48 + n := by simp; omega
    rw [this] at h2
    have : (48 : UInt8).toNat = 48 := rfl
    omega
theorem numR_app : ∀ (a b : List UInt8) (m : Int), (numR a m).1 = 0 -> numR (a ++ b) m = numR b (numR a m).2
 | [], b, m, _ => rfl
 | c :: a, b, m, h => by
  rw [List.cons_append, numR, numR]
  rw [numR] at h
  split
  · rename_i h2; rw [if_pos h2] at h; exact absurd h (show ¬ (2 : Int) = 0 by decide)
  · rename_i h2; rw [if_neg h2] at h; exact numR_app a b _ h
theorem numR_dec : ∀ (k n : Nat), n < 10 ^ (k + 1) -> n ≤ 1000000000 -> numR (decF k n) 0 = (0, (n : Int))
 | 0, n, h, hn => by
  have h2 : (UInt8.ofNat (48 + n)).toNat = 48 + n := by simp; omega
  rw [decF, numR, h2, if_neg (by omega), numR]
  congr 1; omega
 | k + 1, n, h, hn => by
  rw [decF]
  split
  · have ih := numR_dec k (n / 10) (by rw [Nat.pow_succ] at h; omega) (by omega)
    rw [numR_app _ _ _ (by rw [ih]), ih]
    have h2 : (UInt8.ofNat (48 + n % 10)).toNat = 48 + n % 10 := by simp; omega
    simp only [numR]
    rw [h2, if_neg (by omega)]
    congr 1; omega
  · have h2 : (UInt8.ofNat (48 + n)).toNat = 48 + n := by simp; omega
    rw [numR, h2, if_neg (by omega), numR]
    congr 1; omega
inductive TK where
 | wd (s : List UInt8)
 | sg (s : List UInt8)
 | nm (n : Nat)
inductive Pc where
 | b (c : UInt8)
 | t (k : TK)
def TK.tx : TK -> List UInt8
 | .wd s => s
 | .sg s => s
 | .nm n => decN n
def txt : List Pc -> List UInt8
 | [] => []
 | .b c :: r => c :: txt r
 | .t k :: r => k.tx ++ txt r
def tks : List Pc -> List TK
 | [] => []
 | .b _ :: r => tks r
 | .t k :: r => k :: tks r
theorem txt_app : ∀ a b : List Pc, txt (a ++ b) = txt a ++ txt b
 | [], b => rfl
 | .b c :: a, b => by simp [txt, txt_app a b]
 | .t k :: a, b => by simp [txt, txt_app a b]
theorem tks_app : ∀ a b : List Pc, tks (a ++ b) = tks a ++ tks b
 | [], b => rfl
 | .b c :: a, b => by simp [tks, tks_app a b]
 | .t k :: a, b => by simp [tks, tks_app a b]
def Fits (t : Tok) : TK -> Prop
 | .wd s => t.k = 1 ∧ t.tx = s
 | .sg s => t.k = 3 ∧ t.tx = s
 | .nm n => t.k = 2 ∧ t.n = n
inductive All2 : List Tok -> List TK -> Prop
 | nil : All2 [] []
 | cons {t : Tok} {k : TK} {ts : List Tok} {ks : List TK} : Fits t k -> All2 ts ks -> All2 (t :: ts) (k :: ks)
def isWd (s : List UInt8) : Prop := s ≠ [] ∧ cAt s 0 = 2 ∧ (∀ i, i < s.length -> cAt s i = 2 ∨ cAt s i = 3) ∧ s.length ≤ 40
def isSg (s : List UInt8) : Prop := (∃ c ∈ sgls, s = [c]) ∨ s ∈ dbls
def TK.ok : TK -> Prop
 | .wd s => isWd s
 | .sg s => isSg s
 | .nm n => n ≤ 1000000000
def TK.sep : TK -> List UInt8 -> Prop
 | .sg s, r => s.length = 2 ∨ (r.getD 0 0 ≠ 61 ∧ r.getD 0 0 ≠ 46)
 | _, r => cAt r 0 ≠ 2 ∧ cAt r 0 ≠ 3
def good : List Pc -> Prop
 | [] => True
 | .b c :: r => (c = 32 ∨ c = 10) ∧ good r
 | .t k :: r => k.ok ∧ k.sep (txt r) ∧ good r
theorem runE_through {s r : List UInt8} {cs : List Int} (hs : ∀ i, i < s.length -> cAt s i ∈ cs) (hr : cAt r 0 ∉ cs) : runE (s ++ r) cs 0 = s.length := by
 have key : ∀ k, k ≤ s.length -> runE (s ++ r) cs (s.length - k) = s.length := by
  intro k
  induction k with
  | zero =>
   intro _
   refine runE_stop fun h => hr ?_
   have := cAt_app (a := s) (b := r) (p := 0)
   rw [← this]; exact h.2
  | succ k ih =>
   intro hk
   rw [runE_step (by simp; omega) (by rw [cAt_left (by omega)]; exact hs _ (by omega)), show s.length - (k + 1) + 1 = s.length - k by omega]
   exact ih (by omega)
 have := key s.length (Nat.le_refl _)
 rwa [Nat.sub_self] at this
theorem cut_front (s r : List UInt8) : cut (s ++ r) 0 s.length = s := by simp [cut]
theorem cAt_head {s r : List UInt8} (h : s ≠ []) : cAt (s ++ r) 0 = cAt s 0 := cAt_left (List.length_pos_iff.2 h)
theorem step_wd {s r : List UInt8} (h : isWd s) (hr : cAt r 0 ≠ 2 ∧ cAt r 0 ≠ 3) : stepT (s ++ r) 0 = .tok ⟨1, s, 0, 0⟩ s.length := by
 obtain ⟨h0, h1, h2, h3⟩ := h
 have hru := runE_through (cs := [2, 3]) (fun i hi => by simpa using h2 i hi) (by simpa using hr)
 unfold stepT
 rw [cAt_head h0, h1, if_neg (by decide), if_pos rfl, hru]
 unfold mkStp
 rw [cut_front]
 have hw : whE (s ++ r) 1 s 0 = (0, 0) := by
  unfold whE
  rw [if_neg (by simp [h0]), if_neg (by omega), if_pos (by decide)]
 rw [hw, if_neg (fun h => h rfl)]
theorem cls_dig {c : UInt8} (h : 48 ≤ c.toNat ∧ c.toNat ≤ 57) : cls c.toNat = 3 :=
 (cls_at c.toNat_lt).2.1.2 (by simp [dgtB]; omega)
theorem cAt_dig {s : List UInt8} (hs : ∀ c ∈ s, 48 ≤ c.toNat ∧ c.toNat ≤ 57) {i : Nat} (h : i < s.length) : cAt s i = 3 := by
 unfold cAt
 rw [List.getD_eq_getElem?_getD, List.getElem?_eq_getElem h]
 exact cls_dig (hs _ (List.getElem_mem h))
theorem step_nm {n : Nat} {r : List UInt8} (h : n ≤ 1000000000) (hr : cAt r 0 ≠ 3) : stepT (decN n ++ r) 0 = .tok ⟨2, decN n, n, 0⟩ (decN n).length := by
 have hlt : n < 10 ^ (18 + 1) := by omega
 have hd := decF_dig 18 n hlt
 have hp := decF_pos 18 n
 have hh := fun h0 => decF_head 18 n hlt h0
 have hn := numR_dec 18 n hlt h
 have hz : n = 0 -> decF 18 n = [48] := fun h => by subst h; rfl
 show stepT (decF 18 n ++ r) 0 = _
 unfold decN
 generalize decF 18 n = s at *
 have hne : s ≠ [] := List.length_pos_iff.1 hp
 have hru := runE_through (cs := [3]) (s := s) (r := r) (fun i hi => by simpa using cAt_dig hd hi) (by simpa using hr)
 unfold stepT
 rw [cAt_head hne, cAt_dig hd hp, if_neg (by decide), if_neg (by decide), if_pos rfl, hru]
 unfold mkStp
 rw [cut_front]
 have hw : whE (s ++ r) 2 s 0 = (0, (n : Int)) := by
  unfold whE
  rw [if_neg (by simp [hne]), if_neg (by simp), if_neg (by decide), if_neg ?_, hn]
  rintro ⟨g1, g2⟩
  by_cases h0 : n = 0
  · rw [hz h0] at g1; simp at g1
  · exact hh (by omega) g2
 rw [hw, if_neg (fun h => h rfl)]
theorem step_sg {s r : List UInt8} (h : isSg s) (hr : s.length = 2 ∨ (r.getD 0 0 ≠ 61 ∧ r.getD 0 0 ≠ 46)) : stepT (s ++ r) 0 = .tok ⟨3, s, 0, 0⟩ s.length := by
 have h4 : cAt s 0 = 4 ∧ s ≠ [] ∧ signE (s ++ r) 0 = s.length := by
  rcases h with ⟨c, hc, rfl⟩ | hd
  · have hr : r.getD 0 0 ≠ 61 ∧ r.getD 0 0 ≠ 46 := by
     rcases hr with hr | hr
     · simp at hr
     · exact hr
    refine ⟨?_, by simp, ?_⟩
    · simp only [sgls, List.mem_cons, List.not_mem_nil, or_false] at hc
      rcases hc with rfl | rfl | rfl | rfl | rfl | rfl | rfl | rfl | rfl | rfl | rfl | rfl | rfl | rfl | rfl <;> decide
    · have hnd : isDbl (c :: r) = false := by
       cases r with
       | nil =>
        simp only [sgls, List.mem_cons, List.not_mem_nil, or_false] at hc
        rcases hc with rfl | rfl | rfl | rfl | rfl | rfl | rfl | rfl | rfl | rfl | rfl | rfl | rfl | rfl | rfl <;> decide
       | cons d r =>
        have hd1 : d ≠ 61 := by simpa using hr.1
        have hd2 : d ≠ 46 := by simpa using hr.2
        simp [isDbl, dbls, List.isPrefixOf, Ne.symm hd1, Ne.symm hd2]
      have hc33 : c ≠ 33 ∧ c ≠ 46 := by
       simp only [sgls, List.mem_cons, List.not_mem_nil, or_false] at hc
       rcases hc with rfl | rfl | rfl | rfl | rfl | rfl | rfl | rfl | rfl | rfl | rfl | rfl | rfl | rfl | rfl <;> decide
      unfold signE
      simp [hnd, hc33]
  · simp only [dbls, List.mem_cons, List.not_mem_nil, or_false] at hd
    have hp : isDbl (s ++ r) = true := by
     rcases hd with rfl | rfl | rfl | rfl | rfl <;> simp [isDbl, dbls, List.isPrefixOf]
    refine ⟨?_, ?_, ?_⟩
    · rcases hd with rfl | rfl | rfl | rfl | rfl <;> decide
    · rcases hd with rfl | rfl | rfl | rfl | rfl <;> simp
    · unfold signE
      simp only [List.drop_zero, hp, if_true]
      rcases hd with rfl | rfl | rfl | rfl | rfl <;> rfl
 obtain ⟨h4, h0, hs⟩ := h4
 unfold stepT
 rw [cAt_head h0, h4, if_neg (by decide), if_neg (by decide), if_neg (by decide), if_pos rfl, hs]
 unfold mkStp
 rw [cut_front]
 have hw : whE (s ++ r) 3 s 0 = (0, 0) := by
  unfold whE
  rw [if_neg (by simp [h0]), if_neg (by simp), if_pos (by decide)]
 rw [hw, if_neg (fun h => h rfl)]
theorem whE_far {l l' tx : List UInt8} {k : Int} {p p' : Nat} (h : k ≠ 1) : whE l k tx p = whE l' k tx p' := by
 unfold whE; simp [h]
theorem stepT_app2 {a b : List UInt8} (h : (a = [] ∨ cAt a (a.length - 1) ≠ 3) ∨ cAt b 0 ≠ 2) : stepT (a ++ b) a.length = (stepT b 0).mv a.length := by
 rcases h with h | h
 · exact stepT_app (p := 0) fun _ => h
 · have hm : ∀ (k : Int) (q : Nat), k ≠ 1 -> mkStp (a ++ b) (a.length + 0) k (a.length + q) = (mkStp b 0 k q).mv a.length := by
    intro k q hk
    unfold mkStp
    rw [cut_app, whE_far (l' := b) (p' := 0) hk]
    split <;> rfl
   show stepT (a ++ b) (a.length + 0) = _
   unfold stepT
   rw [cAt_app, runE_app, runE_app, signE_app, getD_app, drop_app, if_neg h, if_neg h, hm 2 _ (by decide), hm 3 _ (by decide), hm 0 0 (by decide)]
   split
   · rfl
   · split
     · rfl
     · split
       · rfl
       · split
         · first | rfl | (simp only [Stp.mv, Nat.add_zero, Nat.zero_add])
         · rfl
theorem evs_txt : ∀ (ps : List Pc), good ps -> ∀ (a : List UInt8) (n : Nat), (txt ps).length ≤ n -> ((a = [] ∨ cAt a (a.length - 1) ≠ 3) ∨ cAt (txt ps) 0 ≠ 2) →
 ∃ ts : List Tok, evs (a ++ txt ps) n a.length = ts.map .tok ∧ All2 ts (tks ps)
 | [], _, a, n, _, _ => by
  refine ⟨[], ?_, .nil⟩
  cases n with
  | zero => rfl
  | succ n => simp [evs, txt]
 | .b c :: r, hg, a, n, hn, hc => by
  obtain ⟨h1, h2⟩ := hg
  rw [txt] at hn hc ⊢
  cases n with
  | zero => simp at hn
  | succ n =>
   have hcl : cAt (c :: txt r) 0 = 1 := by rcases h1 with rfl | rfl <;> rfl
   have hst : stepT (a ++ c :: txt r) a.length = .skip (a.length + 1) := by
    rw [stepT_app2 hc]
    unfold stepT
    rw [hcl, if_pos rfl]; rfl
   have e : a ++ c :: txt r = (a ++ [c]) ++ txt r := by simp
   have hl : (a ++ [c]).length = a.length + 1 := by simp
   obtain ⟨ts, g1, g2⟩ := evs_txt r h2 (a ++ [c]) n (by simpa using hn) (.inl (.inr (by
    have := cAt_app (a := a) (b := [c]) (p := 0)
    rw [hl, Nat.add_sub_cancel, <- Nat.add_zero a.length, this]
    rcases h1 with rfl | rfl <;> decide)))
   refine ⟨ts, ?_, g2⟩
   rw [evs, if_pos (by simp), hst]
   simp only
   rw [e, <- hl]
   exact g1
 | .t k :: r, hg, a, n, hn, hc => by
  obtain ⟨h1, h2, h3⟩ := hg
  rw [txt] at hn hc ⊢
  have hkt : ∃ t : Tok, stepT (k.tx ++ txt r) 0 = .tok t k.tx.length ∧ Fits t k ∧ 0 < k.tx.length ∧ ((cAt k.tx (k.tx.length - 1) ≠ 3) ∨ cAt (txt r) 0 ≠ 2) := by
   cases k with
   | wd s => exact ⟨_, step_wd h1 h2, ⟨rfl, rfl⟩, List.length_pos_iff.2 h1.1, .inr h2.1⟩
   | nm n => exact ⟨_, step_nm h1 h2.2, ⟨rfl, rfl⟩, decF_pos 18 n, .inr h2.1⟩
   | sg s =>
    refine ⟨_, step_sg h1 h2, ⟨rfl, rfl⟩, ?_, .inl ?_⟩
    · rcases h1 with ⟨c, _, rfl⟩ | hd
      · exact Nat.one_pos
      · simp only [dbls, List.mem_cons, List.not_mem_nil, or_false] at hd
        rcases hd with rfl | rfl | rfl | rfl | rfl <;> decide
    · rcases h1 with ⟨c, hcs, rfl⟩ | hd
      · simp only [sgls, List.mem_cons, List.not_mem_nil, or_false] at hcs
        rcases hcs with rfl | rfl | rfl | rfl | rfl | rfl | rfl | rfl | rfl | rfl | rfl | rfl | rfl | rfl | rfl <;> decide
      · simp only [dbls, List.mem_cons, List.not_mem_nil, or_false] at hd
        rcases hd with rfl | rfl | rfl | rfl | rfl <;> decide
  obtain ⟨t, ht, hf, hp, hl⟩ := hkt
  cases n with
  | zero => rw [List.length_append] at hn; omega
  | succ n =>
   have hst : stepT (a ++ (k.tx ++ txt r)) a.length = .tok (t.mv a.length) (a.length + k.tx.length) := by
    rw [stepT_app2 hc, ht]; rfl
   have e : a ++ (k.tx ++ txt r) = (a ++ k.tx) ++ txt r := by simp
   have hal : (a ++ k.tx).length = a.length + k.tx.length := by simp
   obtain ⟨ts, g1, g2⟩ := evs_txt r h3 (a ++ k.tx) n (by rw [List.length_append] at hn; omega) (by
    rcases hl with hl | hl
    · refine .inl (.inr ?_)
      have := cAt_app (a := a) (b := k.tx) (p := k.tx.length - 1)
      rw [hal, show a.length + k.tx.length - 1 = a.length + (k.tx.length - 1) by omega, this]
      exact hl
    · exact .inr hl)
   refine ⟨t.mv a.length :: ts, ?_, .cons ?_ g2⟩
   · rw [evs, if_pos (by simp; omega), hst]
     simp only [List.map_cons]
     rw [e, <- hal, g1]
   · cases k <;> exact hf
theorem toks_map : ∀ ts : List Tok, toks (ts.map .tok) = ts
 | [] => rfl
 | t :: r => by simp [toks, toks_map r]
theorem scan_txt {ps : List Pc} (hg : good ps) (hf : (scanG (txt ps)).2.1 = 0) : All2 (scanG (txt ps)).1 (tks ps) := by
 obtain ⟨ts, g1, g2⟩ := evs_txt ps hg [] (txt ps).length (Nat.le_refl _) (.inl (.inl rfl))
 have g1 : evsT (txt ps) = ts.map .tok := g1
 unfold scanG at hf ⊢
 split at hf
 · exact absurd hf (by decide)
 · rename_i h1
   split at hf
   · rename_i h2
     rw [if_neg h1, if_pos h2, g1, toks_map]; exact g2
   · rename_i h2; exact absurd hf h2
end Go.Proofs.YthmdmnfojbnobaaGreatDoor
namespace Go.Proofs.YthmdmnfojbnobaaGreatDoor
open Go.Ab
def Rem (c : Cx) (a : Nat) (L : List TK) : Prop := All2 (c.ts.drop a) L
theorem Rem.lt {c : Cx} {a : Nat} {k : TK} {L : List TK} (h : Rem c a (k :: L)) : ∃ h : a < c.ts.length, Fits c.ts[a] k := by
 unfold Rem at h
 by_cases ha : a < c.ts.length
 · rw [List.drop_eq_getElem_cons ha] at h
   cases h with
   | cons h1 h2 => exact ⟨ha, h1⟩
 · rw [List.drop_of_length_le (by omega)] at h; cases h
theorem Rem.next {c : Cx} {a : Nat} {k : TK} {L : List TK} (h : Rem c a (k :: L)) : Rem c (a + 1) L := by
 obtain ⟨ha, _⟩ := h.lt
 unfold Rem at h ⊢
 rw [List.drop_eq_getElem_cons ha] at h
 cases h with
 | cons h1 h2 => exact h2
theorem Rem.end {c : Cx} {a : Nat} (h : Rem c a []) : c.ts.length ≤ a := by
 by_cases ha : a < c.ts.length
 · unfold Rem at h
   rw [List.drop_eq_getElem_cons ha] at h
   cases h
 · omega
def pk (L : List TK) (s : List UInt8) : Bool := match L with
 | .wd w :: _ => decide (w = s)
 | .sg w :: _ => decide (w = s)
 | _ => false
def fre (L : List TK) : Bool := match L with
 | .wd w :: _ => !decide (w ∈ resv)
 | _ => false
def isn (L : List TK) : Bool := match L with
 | .nm _ :: _ => true
 | _ => false
structure Sta (c : Cx) (d : Nat) (r : Rd) (L : List TK) : Prop where
 e : r.e = 0
 rem : Rem c r.a L
 v : r.v + d = 40
 d : d ≤ 40
theorem Sta.peek {c : Cx} {d : Nat} {r : Rd} {L : List TK} (h : Sta c d r L) (s : List UInt8) : peekR c s r = pk L s := by
 unfold peekR tokB
 rw [h.e]
 cases L with
 | nil =>
  have := h.rem.end
  rw [dif_neg (by omega)]; rfl
 | cons k L =>
  obtain ⟨ha, hf⟩ := h.rem.lt
  rw [dif_pos ha]
  cases k with
  | wd w => simp [pk, hf.1, hf.2]
  | sg w => simp [pk, hf.1, hf.2]
  | nm n => simp [pk, hf.1]
theorem Sta.free {c : Cx} {d : Nat} {r : Rd} {L : List TK} (h : Sta c d r L) : freeR c r = fre L := by
 unfold freeR tokB
 rw [h.e]
 cases L with
 | nil =>
  have := h.rem.end
  rw [dif_neg (by omega)]; rfl
 | cons k L =>
  obtain ⟨ha, hf⟩ := h.rem.lt
  rw [dif_pos ha]
  cases k with
  | wd w => simp [hf.1, hf.2, fre]
  | sg w => simp [hf.1, fre]
  | nm n => simp [hf.1, fre]
theorem Sta.num {c : Cx} {d : Nat} {r : Rd} {L : List TK} (h : Sta c d r L) : isNum c r = isn L := by
 unfold isNum tokB
 rw [h.e]
 cases L with
 | nil =>
  have := h.rem.end
  rw [dif_neg (by omega)]; rfl
 | cons k L =>
  obtain ⟨ha, hf⟩ := h.rem.lt
  rw [dif_pos ha]
  cases k with
  | wd w => simp [hf.1, isn]
  | sg w => simp [hf.1, isn]
  | nm n => simp [hf.1, isn]
theorem Sta.next {c : Cx} {d : Nat} {r : Rd} {k : TK} {L : List TK} (h : Sta c d r (k :: L)) : Sta c d (nextR r) L := ⟨h.e, h.rem.next, h.v, h.d⟩
theorem Sta.take {c : Cx} {d : Nat} {r : Rd} {k : TK} {L : List TK} {s : List UInt8} (h : Sta c d r (k :: L)) (hk : pk (k :: L) s = true) : (takeR c s r).2 = nextR r ∧ Sta c d (takeR c s r).2 L := by
 have e : (takeR c s r).2 = nextR r := by unfold takeR; rw [h.peek, if_pos hk]
 exact ⟨e, e ▸ h.next⟩
theorem Sta.word {c : Cx} {d : Nat} {r : Rd} {w : List UInt8} {L : List TK} (h : Sta c d r (.wd w :: L)) (hw : w ∉ resv) : wordR c r = (w, nextR r) ∧ Sta c d (nextR r) L := by
 refine ⟨?_, h.next⟩
 obtain ⟨ha, hf⟩ := h.rem.lt
 unfold wordR
 rw [if_pos (by rw [h.free]; simpa [fre] using hw), List.getD_eq_getElem?_getD, List.getElem?_eq_getElem ha]
 simp [hf.2]
theorem Sta.numb {c : Cx} {d : Nat} {r : Rd} {n : Nat} {L : List TK} (h : Sta c d r (.nm n :: L)) : nmR c r = ((n : Int), nextR r) ∧ Sta c d (nextR r) L := by
 refine ⟨?_, h.next⟩
 obtain ⟨ha, hf⟩ := h.rem.lt
 unfold nmR
 rw [if_pos (by rw [h.num]; rfl), List.getD_eq_getElem?_getD, List.getElem?_eq_getElem ha]
 simp [hf.2]
mutual
def Ex.er : Ex -> Ex
 | .mk op n nm l _ => .mk op n nm (Ex.erL l) 0
def Ex.erL : List Ex -> List Ex
 | [] => []
 | e :: r => e.er :: Ex.erL r
end
def Reads (c : Cx) (d : Nat) (F : Rd -> Ex × Rd) (l : List TK) (e : Ex) (st : List TK -> Prop) : Prop :=
 ∀ r L, Sta c d r (l ++ L) -> st L -> (F r).2.e ≠ 0 ∨ (Sta c d (F r).2 L ∧ (F r).1.er = e.er)
def noOp (ops : List (List UInt8 × Int)) (L : List TK) : Prop := ∀ o ∈ ops, pk L o.1 = false
theorem opAt_none {c : Cx} {ops : List (List UInt8 × Int)} {r : Rd} (h : ∀ o ∈ ops, peekR c o.1 r = false) : opAt c ops r = none := by
 unfold opAt
 rw [Option.map_eq_none_iff, List.find?_eq_none]
 intro o ho; rw [h o ho]; decide
theorem Sta.none {c : Cx} {d : Nat} {r : Rd} {L : List TK} {ops : List (List UInt8 × Int)} (h : Sta c d r L) (hn : noOp ops L) : opAt c ops r = none := opAt_none fun o ho => by rw [h.peek]; exact hn o ho
theorem Sta.some {c : Cx} {d : Nat} {r : Rd} {k : TK} {L : List TK} {ops : List (List UInt8 × Int)} {s : List UInt8} {op : Int} (h : Sta c d r (k :: L)) (hk : k = .sg s ∨ k = .wd s) (hf : (ops.find? fun o => decide (s = o.1)).map (·.2) = .some op) : opAt c ops r = .some op := by
 unfold opAt
 have e : (fun o : List UInt8 × Int => peekR c o.1 r) = fun o => decide (s = o.1) := by
  funext o
  rw [h.peek]
  rcases hk with rfl | rfl <;> rfl
 rw [e]; exact hf
theorem binL_stop {c : Cx} {ops : List (List UInt8 × Int)} {f : Rd -> Ex × Rd} {e : Ex} {r : Rd} (h : opAt c ops r = .none) (n : Nat) : binL c ops f n e r = (e, r) := by
 cases n with
 | zero => rfl
 | succ n => rw [binL, h]
section
variable {c : Cx} {d : Nat} {F : Rd -> Ex × Rd} {l la lb : List TK} {e a b : Ex} {st sa sb : List TK -> Prop} {ops : List (List UInt8 × Int)}
theorem Reads.pass (h : Reads c d F l e st) : Reads c d (binF c ops F) l e (fun L => st L ∧ noOp ops L) := by
 intro r L hs ⟨h1, h2⟩
 unfold binF
 rcases h r L hs h1 with hb | ⟨hg, he⟩
 · rw [binL_stop (opAt_bad hb _)]; exact .inl hb
 · rw [binL_stop (hg.none h2)]; exact .inr ⟨hg, he⟩
theorem Reads.op {k : TK} {s : List UInt8} {op : Int} (hst : Still F) (ha : Reads c d F la a sa) (hb : Reads c d F lb b sb) (hk : k = .sg s ∨ k = .wd s) (hf : (ops.find? fun o => decide (s = o.1)).map (·.2) = .some op) (hs : ∀ L, sa (k :: L)) :
 Reads c d (binF c ops F) (la ++ k :: lb) (.mk op 0 [] [a, b] 0) (fun L => sb L ∧ noOp ops L) := by
 intro r L h ⟨h1, h2⟩
 unfold binF
 rw [List.append_assoc] at h
 rcases ha r _ h (hs _) with hb1 | ⟨hg, he⟩
 · rw [binL_stop (opAt_bad hb1 _)]; exact .inl hb1
 · have hpos : 0 < c.ts.length := by obtain ⟨hh, _⟩ := hg.rem.lt; omega
   obtain ⟨n, hn⟩ : ∃ n, c.ts.length = n + 1 := ⟨c.ts.length - 1, by omega⟩
   rw [hn, binL, hg.some hk hf]
   simp only
   rcases hb _ L hg.next h1 with hb2 | ⟨hg2, he2⟩
   · rw [binL_stop (opAt_bad hb2 _)]; exact .inl hb2
   · rw [binL_stop (hg2.none h2)]
     refine .inr ⟨hg2, ?_⟩
     simp only [Ex.er, Ex.erL, he, he2]
theorem Reads.cpass (h : Reads c d F l e st) : Reads c d (cmpF c F) l e (fun L => st L ∧ noOp cmpO L) := by
 intro r L hs ⟨h1, h2⟩
 unfold cmpF
 rcases h r L hs h1 with hb | ⟨hg, he⟩
 · rw [opAt_bad hb _]; exact .inl hb
 · rw [hg.none h2]; exact .inr ⟨hg, he⟩
theorem Reads.cop {k : TK} {s : List UInt8} {op : Int} (ha : Reads c d F la a sa) (hb : Reads c d F lb b sb) (hk : k = .sg s ∨ k = .wd s) (hf : (cmpO.find? fun o => decide (s = o.1)).map (·.2) = .some op) (hs : ∀ L, sa (k :: L)) :
 Reads c d (cmpF c F) (la ++ k :: lb) (.mk op 0 [] [a, b] 0) sb := by
 intro r L h h1
 unfold cmpF
 rw [List.append_assoc] at h
 rcases ha r _ h (hs _) with hb1 | ⟨hg, he⟩
 · rw [opAt_bad hb1 _]; exact .inl hb1
 · rw [hg.some hk hf]
   simp only
   rcases hb _ L hg.next h1 with hb2 | ⟨hg2, he2⟩
   · exact .inl hb2
   · refine .inr ⟨hg2, ?_⟩
     simp only [Ex.er, Ex.erL, he, he2]
end
end Go.Proofs.YthmdmnfojbnobaaGreatDoor
namespace Go.Proofs.YthmdmnfojbnobaaGreatDoor
open Go.Ab
section
variable {c : Cx} {d : Nat}
def Red (c : Cx) (d : Nat) (F : Rd -> Ex × Rd) (l : List TK) (e : Ex) (st : List TK -> Prop) : Prop :=
 ∀ r L, Sta c d r (l ++ L) -> st L -> Sta c d (F r).2 L ∧ (F r).1.er = e.er
variable {F : Rd -> Ex × Rd} {l la lb : List TK} {e a b : Ex} {st sa sb : List TK -> Prop} {ops : List (List UInt8 × Int)}
theorem Red.mono {st' : List TK -> Prop} (h : Red c d F l e st) (hs : ∀ L, st' L -> st L) : Red c d F l e st' := fun r L h1 h2 => h r L h1 (hs L h2)
theorem Red.pass (h : Red c d F l e st) : Red c d (binF c ops F) l e (fun L => st L ∧ noOp ops L) := by
 intro r L hs ⟨h1, h2⟩
 obtain ⟨hg, he⟩ := h r L hs h1
 unfold binF
 rw [binL_stop (hg.none h2)]; exact ⟨hg, he⟩
theorem Red.op {k : TK} {s : List UInt8} {op : Int} (ha : Red c d F la a sa) (hb : Red c d F lb b sb) (hk : k = .sg s ∨ k = .wd s) (hf : (ops.find? fun o => decide (s = o.1)).map (·.2) = .some op) (hs : ∀ L, sa (k :: L)) :
 Red c d (binF c ops F) (la ++ k :: lb) (.mk op 0 [] [a, b] 0) (fun L => sb L ∧ noOp ops L) := by
 intro r L h ⟨h1, h2⟩
 unfold binF
 rw [List.append_assoc] at h
 obtain ⟨hg, he⟩ := ha r _ h (hs _)
 have hpos : 0 < c.ts.length := by obtain ⟨hh, _⟩ := hg.rem.lt; omega
 obtain ⟨n, hn⟩ : ∃ n, c.ts.length = n + 1 := ⟨c.ts.length - 1, by omega⟩
 rw [hn, binL, hg.some hk hf]
 simp only
 obtain ⟨hg2, he2⟩ := hb _ L hg.next h1
 rw [binL_stop (hg2.none h2)]
 refine ⟨hg2, ?_⟩
 simp only [Ex.er, Ex.erL, he, he2]
theorem Red.cpass (h : Red c d F l e st) : Red c d (cmpF c F) l e (fun L => st L ∧ noOp cmpO L) := by
 intro r L hs ⟨h1, h2⟩
 obtain ⟨hg, he⟩ := h r L hs h1
 unfold cmpF
 rw [hg.none h2]; exact ⟨hg, he⟩
theorem Red.cop {k : TK} {s : List UInt8} {op : Int} (ha : Red c d F la a sa) (hb : Red c d F lb b sb) (hk : k = .sg s ∨ k = .wd s) (hf : (cmpO.find? fun o => decide (s = o.1)).map (·.2) = .some op) (hs : ∀ L, sa (k :: L)) :
 Red c d (cmpF c F) (la ++ k :: lb) (.mk op 0 [] [a, b] 0) sb := by
 intro r L h h1
 unfold cmpF
 rw [List.append_assoc] at h
 obtain ⟨hg, he⟩ := ha r _ h (hs _)
 rw [hg.some hk hf]
 simp only
 obtain ⟨hg2, he2⟩ := hb _ L hg.next h1
 refine ⟨hg2, ?_⟩
 simp only [Ex.er, Ex.erL, he, he2]
theorem open_suc {r : Rd} {L : List TK} {k : TK} {s : List UInt8} (h : Sta c (d + 1) r (k :: L)) (hk : pk (k :: L) s = true) : Sta c d (openR c s r).2 L := by
 have hv := h.v
 have hd := h.d
 unfold openR
 rw [h.peek, if_neg (by rintro ⟨_, h2⟩; omega)]
 have hw : IntKind.i64.wrap (r.v + 1) = r.v + 1 := wrap_id (by omega) (by omega)
 have hu : Sta c d (upR r) (k :: L) := ⟨h.e, h.rem, by show IntKind.i64.wrap (r.v + 1) + (d : Int) = 40; rw [hw]; omega, by omega⟩
 exact (hu.take hk).2
theorem dnS {r : Rd} {L : List TK} (h : Sta c d r L) (hd : d + 1 ≤ 40) : Sta c (d + 1) (dnR r) L := by
 have hv := h.v
 have hw : IntKind.i64.wrap (r.v - 1) = r.v - 1 := wrap_id (by omega) (by omega)
 exact ⟨h.e, h.rem, by show IntKind.i64.wrap (r.v - 1) + ((d + 1 : Nat) : Int) = 40; rw [hw]; omega, hd⟩
variable {cmp ntP orP facP : Rd -> Ex × Rd}
theorem Red.npass (h : Red c d cmp l e st) (hn : ∀ L, pk (l ++ L) [110, 111, 116] = false) : Red c d (notG c cmp ntP) l e st := by
 intro r L hs h1
 unfold notG
 rw [hs.peek, if_neg (by rw [hn L]; decide)]
 exact h r L hs h1
theorem Red.nop (ha : Red c d ntP la a sa) : Red c (d + 1) (notG c cmp ntP) (.wd [110, 111, 116] :: la) (.mk 4 0 [] [a] 0) sa := by
 intro r L hs h1
 have ho := open_suc (s := [110, 111, 116]) hs rfl
 unfold notG
 have hp : peekR c [110, 111, 116] r = true := by rw [hs.peek]; rfl
 rw [if_pos hp, if_neg (fun h => h ho.e)]
 obtain ⟨hg, he⟩ := ha _ L ho h1
 exact ⟨dnS hg hs.d, by simp only [Ex.er, Ex.erL, he]⟩
theorem Red.name {w : List UInt8} (hw : w ∉ resv) : Red c d (facG c orP facP) [.wd w] (.mk 2 0 w [] 0) (fun _ => True) := by
 intro r L hs _
 have hs : Sta c d r (.wd w :: L) := hs
 unfold facG
 rw [if_neg (fun h => h hs.e), if_pos (by rw [hs.free]; simpa [fre] using hw)]
 obtain ⟨h1, h2⟩ := hs.word hw
 rw [h1]
 exact ⟨h2, by simp only [Ex.er, Ex.erL]⟩
theorem Red.neg (ha : Red c d facP la a sa) : Red c (d + 1) (facG c orP facP) (.sg [45] :: la) (.mk 3 0 [] [a] 0) sa := by
 intro r L hs h1
 have ho := open_suc (s := [45]) hs rfl
 unfold facG
 have hp : peekR c [45] r = true := by rw [hs.peek]; rfl
 have hf : freeR c r = false := by rw [hs.free]; rfl
 rw [if_neg (fun h => h hs.e), if_neg (by rw [hf]; decide), if_pos hp, if_neg (fun h => h ho.e)]
 obtain ⟨hg, he⟩ := ha _ L ho h1
 exact ⟨dnS hg hs.d, by simp only [Ex.er, Ex.erL, he]⟩
theorem Red.par (ha : Red c d orP la a sa) (hs : ∀ L, sa (.sg [41] :: L)) : Red c (d + 1) (facG c orP facP) (.sg [40] :: (la ++ [.sg [41]])) a (fun _ => True) := by
 intro r L h _
 have ho := open_suc (s := [40]) h rfl
 unfold facG
 have hp : peekR c [45] r = false := by rw [h.peek]; rfl
 have hp2 : peekR c [40] r = true := by rw [h.peek]; rfl
 have hf : freeR c r = false := by rw [h.free]; rfl
 rw [if_neg (fun h2 => h2 h.e), if_neg (by rw [hf]; decide), if_neg (by rw [hp]; decide), if_pos hp2, if_neg (fun h2 => h2 ho.e)]
 have ho : Sta c d (openR c [40] r).2 (la ++ (.sg [41] :: L)) := by have := ho; rwa [show (la ++ [TK.sg [41]]).append L = la ++ (.sg [41] :: L) from List.append_assoc ..] at this
 obtain ⟨hg, he⟩ := ha _ _ ho (hs _)
 exact ⟨dnS (hg.take rfl).2 h.d, he⟩
theorem Red.num {n : Nat} : Red c d (facG c orP facP) [.nm n] (.mk 1 n [] [] 0) (fun _ => True) := by
 intro r L hs _
 have hs : Sta c d r (.nm n :: L) := hs
 have hfd : wrdO.find? (fun w => peekR c w.1 r) = none := by
  rw [List.find?_eq_none]
  intro w _; rw [hs.peek]; exact Bool.false_ne_true
 unfold facG
 have hp : peekR c [45] r = false := by rw [hs.peek]; rfl
 have hp2 : peekR c [40] r = false := by rw [hs.peek]; rfl
 have hf : freeR c r = false := by rw [hs.free]; rfl
 rw [if_neg (fun h2 => h2 hs.e), if_neg (by rw [hf]; decide), if_neg (by rw [hp]; decide), if_neg (by rw [hp2]; decide), hfd]
 obtain ⟨h1, h2⟩ := hs.numb
 rw [h1]
 exact ⟨h2, by simp only [Ex.er, Ex.erL]⟩
def cmm : List (List TK) -> List TK
 | [] => []
 | x :: r => .sg [44] :: (x ++ cmm r)
inductive Reds (c : Cx) (d : Nat) (F : Rd -> Ex × Rd) (sa : List TK -> Prop) : List (List TK) -> List Ex -> Prop
 | nil : Reds c d F sa [] []
 | cons {x : List TK} {e : Ex} {xs : List (List TK)} {es : List Ex} : Red c d F x e sa -> Reds c d F sa xs es -> Reds c d F sa (x :: xs) (e :: es)
theorem args_red {xs : List (List TK)} {es : List Ex} (hr : Reds c d orP sa xs es) (h1 : ∀ L, sa (.sg [41] :: L)) (h2 : ∀ L, sa (.sg [44] :: L)) :
 ∀ (acc : List Ex) (r : Rd) (L : List TK), Sta c d r (cmm xs ++ .sg [41] :: L) →
  ∃ l, (argsG c orP xs.length acc r).1 = some (acc ++ l) ∧ Sta c d (argsG c orP xs.length acc r).2 (.sg [41] :: L) ∧ Ex.erL l = Ex.erL es := by
 induction hr with
 | nil => intro acc r L h; exact ⟨[], by simp [argsG], h, rfl⟩
 | @cons x e xs es hx hxs ih =>
  intro acc r L h
  obtain ⟨ht1, ht⟩ := Sta.take (k := .sg [44]) (s := [44]) (L := x ++ (cmm xs ++ .sg [41] :: L)) (by simpa [cmm] using h) rfl
  rw [List.length_cons, argsG, if_neg (fun h => h ht.e)]
  have hnx : sa (cmm xs ++ .sg [41] :: L) := by
   cases xs with
   | nil => exact h1 _
   | cons y ys => exact h2 _
  obtain ⟨hg, he⟩ := hx _ _ ht hnx
  obtain ⟨l, g1, g2, g3⟩ := ih (acc ++ [(orP (takeR c [44] r).2).1]) _ L hg
  refine ⟨(orP (takeR c [44] r).2).1 :: l, ?_, g2, ?_⟩
  · rw [g1]; simp
  · simp only [Ex.erL, g3]
    rw [he]
theorem Red.call {w : List UInt8} {op : Int} {x : List TK} {xs : List (List TK)} {es : List Ex} (hw : (w, op, xs.length) ∈ wrdO) (ha : Red c d orP x a sa)
 (hr : Reds c d orP sa xs es) (h1 : ∀ L, sa (.sg [41] :: L)) (h2 : ∀ L, sa (.sg [44] :: L)) :
 Red c (d + 1) (facG c orP facP) (.wd w :: .sg [40] :: (x ++ cmm xs ++ [.sg [41]])) (.mk op 0 [] (a :: es) 0) (fun _ => True) := by
 intro r L h _
 have h : Sta c (d + 1) r (.wd w :: .sg [40] :: (x ++ (cmm xs ++ .sg [41] :: L))) := by simpa using h
 have hwr : w ∈ resv ∧ w ≠ [45] ∧ w ≠ [40] ∧ wrdO.find? (fun v => decide (w = v.1)) = some (w, op, xs.length) := by
  generalize xs.length = m at hw
  simp only [wrdO, List.mem_cons, List.not_mem_nil, or_false, Prod.mk.injEq] at hw
  rcases hw with ⟨rfl, rfl, rfl⟩ | ⟨rfl, rfl, rfl⟩ | ⟨rfl, rfl, rfl⟩ <;> decide
 obtain ⟨k1, k2, k3, k4⟩ := hwr
 have hfd : wrdO.find? (fun v => peekR c v.1 r) = some (w, op, xs.length) := by
  have e : (fun v : List UInt8 × Int × Nat => peekR c v.1 r) = fun v => decide (w = v.1) := by funext v; rw [h.peek]; rfl
  rw [e]; exact k4
 unfold facG
 rw [if_neg (fun h2 => h2 h.e), if_neg (by rw [h.free]; simpa [fre] using k1), h.peek, h.peek, if_neg (by simp [pk, k2]), if_neg (by simp [pk, k3]), hfd]
 simp only
 unfold callG
 simp only
 have ht := (h.take (s := w) (by simp [pk])).2
 have ho := open_suc (s := [40]) ht rfl
 rw [if_neg (fun h => h ho.e)]
 generalize (openR c [40] (takeR c w r).2).2 = r2 at ho ⊢
 have hnx : sa (cmm xs ++ .sg [41] :: L) := by
  cases xs with
  | nil => exact h1 _
  | cons y ys => exact h2 _
 obtain ⟨hg, he⟩ := ha r2 _ ho hnx
 obtain ⟨l, g1, g2, g3⟩ := args_red hr h1 h2 [(orP r2).1] _ L hg
 split
 · rename_i r3 hq; rw [hq] at g1; cases g1
 · rename_i l' r3 hq
   rw [hq] at g1 g2
   obtain rfl := Option.some.inj g1
   refine ⟨dnS (g2.take rfl).2 h.d, ?_⟩
   simp only [Ex.er, List.cons_append, List.nil_append, Ex.erL, he, g3]
def q1 (c : Cx) (d : Nat) : Rd -> Ex × Rd := binF c mulO (lv c d).fac
def q2 (c : Cx) (d : Nat) : Rd -> Ex × Rd := binF c sumO (q1 c d)
def q3 (c : Cx) (d : Nat) : Rd -> Ex × Rd := cmpF c (q2 c d)
def q5 (c : Cx) (d : Nat) : Rd -> Ex × Rd := binF c andO (lv c d).nt
theorem ntq (d : Nat) : ∃ N, (lv c d).nt = notG c (q3 c d) N := by
 cases d with
 | zero => exact ⟨_, rfl⟩
 | succ d => exact ⟨_, rfl⟩
def stpE (L : List TK) : Prop := noOp mulO L ∧ noOp sumO L ∧ noOp cmpO L ∧ noOp andO L ∧ noOp orO L
theorem noq {ops : List (List UInt8 × Int)} {k : TK} {s : List UInt8} (hk : k = .sg s ∨ k = .wd s) (h : (ops.all fun o => decide (s ≠ o.1)) = true) (L : List TK) : noOp ops (k :: L) := by
 intro o ho
 have h2 := List.all_eq_true.1 h o ho
 simp only [ne_eq, decide_not, Bool.not_eq_true', decide_eq_false_iff_not] at h2
 rcases hk with rfl | rfl <;> simp [pk, h2]
theorem stp_of {s : List UInt8} (h : ([mulO, sumO, cmpO, andO, orO].all fun l => l.all fun o => decide (s ≠ o.1)) = true) {k : TK} (hk : k = .sg s ∨ k = .wd s) (L : List TK) : stpE (k :: L) := by
 have h2 := List.all_eq_true.1 h
 exact ⟨noq hk (h2 mulO (by simp)) L, noq hk (h2 sumO (by simp)) L, noq hk (h2 cmpO (by simp)) L, noq hk (h2 andO (by simp)) L, noq hk (h2 orO (by simp)) L⟩
abbrev s1 (L : List TK) : Prop := True ∧ noOp mulO L
abbrev s2 (L : List TK) : Prop := s1 L ∧ noOp sumO L
abbrev s3 (L : List TK) : Prop := s2 L ∧ noOp cmpO L
theorem rq1 (h : Red c d (lv c d).fac l e (fun _ => True)) : Red c d (q1 c d) l e s1 := h.pass
theorem rq2 (h : Red c d (q1 c d) l e s1) : Red c d (q2 c d) l e s2 := h.pass
theorem rq3 (h : Red c d (q2 c d) l e s2) : Red c d (q3 c d) l e s3 := h.cpass
theorem rq4 {st : List TK -> Prop} (h : Red c d (q3 c d) l e st) (hn : ∀ L, pk (l ++ L) [110, 111, 116] = false) : Red c d (lv c d).nt l e st := by
 obtain ⟨N, hN⟩ := ntq (c := c) d
 rw [hN]; exact h.npass hn
theorem rq6 {st : List TK -> Prop} (h : Red c d (lv c d).nt l e st) : Red c d (orOf c (lv c d)) l e (fun L => (st L ∧ noOp andO L) ∧ noOp orO L) := h.pass.pass
def Whole (c : Cx) (d : Nat) (l : List TK) (e : Ex) : Prop := Red c d (orOf c (lv c d)) l e stpE
theorem wh3 {st : List TK -> Prop} (h : Red c d (q3 c d) l e st) (hs : ∀ L, stpE L -> st L) (hn : ∀ L, pk (l ++ L) [110, 111, 116] = false) : Whole c d l e :=
 (rq6 (rq4 h hn)).mono fun L hL => ⟨⟨hs L hL, hL.2.2.2.1⟩, hL.2.2.2.2⟩
theorem wh2 (h : Red c d (q2 c d) l e s2) (hn : ∀ L, pk (l ++ L) [110, 111, 116] = false) : Whole c d l e := wh3 (rq3 h) (fun _ hL => ⟨⟨⟨trivial, hL.1⟩, hL.2.1⟩, hL.2.2.1⟩) hn
theorem wh0 (h : Red c d (lv c d).fac l e (fun _ => True)) (hn : ∀ L, pk (l ++ L) [110, 111, 116] = false) : Whole c d l e := wh2 (rq2 (rq1 h)) hn
theorem fac_name {w : List UInt8} (hw : w ∉ resv) : Red c d (lv c d).fac [.wd w] (.mk 2 0 w [] 0) (fun _ => True) := by
 cases d with
 | zero => exact Red.name hw
 | succ d => exact Red.name hw
theorem fac_num {n : Nat} : Red c d (lv c d).fac [.nm n] (.mk 1 n [] [] 0) (fun _ => True) := by
 cases d with
 | zero => exact Red.num
 | succ d => exact Red.num
end
end Go.Proofs.YthmdmnfojbnobaaGreatDoor
namespace Go.Proofs.YthmdmnfojbnobaaGreatDoor
open Go.Ab
def wMax : List UInt8 := [109, 97, 120]
def wMin : List UInt8 := [109, 105, 110]
def wIf : List UInt8 := [105, 102]
def wNot : List UInt8 := [110, 111, 116]
def wAnd : List UInt8 := [97, 110, 100]
def wOr : List UInt8 := [111, 114]
abbrev pw (s : List UInt8) : Pc := .t (.wd s)
abbrev ps (s : List UInt8) : Pc := .t (.sg s)
abbrev pn (n : Nat) : Pc := .t (.nm n)
abbrev pb : Pc := .b 32
def exPc (g : GX) : List Pc :=
 if g.k = 0 then [pw (vN g.x), pb, ps [43], pb, pw (vN g.y)]
 else if g.k = 1 then [pw (vN g.x), pb, ps [45], pb, pn 2, pb, ps [42], pb, pw (vN g.y)]
 else if g.k = 2 then [pw wMax, ps [40], pw (vN g.x), ps [44], pb, pw (vN g.y), ps [41]]
 else if g.k = 3 then [pw wIf, ps [40], pw (vN g.x), pb, ps [60], pb, pw (vN g.y), ps [44], pb, pn 1, ps [44], pb, ps [45], pn 1, ps [41]]
 else if g.k = 4 then [pw wMin, ps [40], pw (vN g.x), ps [44], pb, pn 3, ps [41], pb, ps [43], pb, pn 1]
 else if g.k = 5 then [ps [45], pw (vN g.x)]
 else if g.k = 6 then [ps [40], pw (vN g.x), pb, ps [43], pb, pn 7, ps [41], pb, ps [37], pb, pn 3]
 else [pw (vN g.x)]
def cdPc (g : GX) : List Pc :=
 if g.k = 0 then [pw (vN g.x), pb, ps [60], pb, pn 1]
 else if g.k = 1 then [pw (vN g.x), pb, ps [62, 61], pb, pw (vN g.y), pb, pw wAnd, pb, pw wNot, pb, pw (vN g.y), pb, ps [61, 61], pb, pn 2]
 else if g.k = 2 then [pw (vN g.x), pb, ps [33, 61], pb, pn 0, pb, pw wOr, pb, pw (vN g.y), pb, ps [62], pb, pn 1]
 else [pw wNot, pb, pw (vN g.x), pb, ps [60, 61], pb, pn 0]
theorem txt_ex (g : GX) : txt (exPc g) = exB g := by
 unfold exPc exB exT
 repeat' split
 all_goals rfl
theorem txt_cd (g : GX) : txt (cdPc g) = cdB g := by
 unfold cdPc cdB cdT
 repeat' split
 all_goals rfl
abbrev eNm (x : Nat) : Ex := .mk 2 0 (vN x) [] 0
abbrev eIn (n : Nat) : Ex := .mk 1 n [] [] 0
abbrev eOp (op : Int) (l : List Ex) : Ex := .mk op 0 [] l 0
def exE (g : GX) : Ex :=
 if g.k = 0 then eOp 8 [eNm g.x, eNm g.y]
 else if g.k = 1 then eOp 9 [eNm g.x, eOp 5 [eIn 2, eNm g.y]]
 else if g.k = 2 then eOp 19 [eNm g.x, eNm g.y]
 else if g.k = 3 then eOp 20 [eOp 12 [eNm g.x, eNm g.y], eIn 1, eOp 3 [eIn 1]]
 else if g.k = 4 then eOp 8 [eOp 18 [eNm g.x, eIn 3], eIn 1]
 else if g.k = 5 then eOp 3 [eNm g.x]
 else if g.k = 6 then eOp 7 [eOp 8 [eNm g.x, eIn 7], eIn 3]
 else eNm g.x
def cdE (g : GX) : Ex :=
 if g.k = 0 then eOp 12 [eNm g.x, eIn 1]
 else if g.k = 1 then eOp 16 [eOp 15 [eNm g.x, eNm g.y], eOp 4 [eOp 10 [eNm g.y, eIn 2]]]
 else if g.k = 2 then eOp 17 [eOp 11 [eNm g.x, eIn 0], eOp 14 [eNm g.y, eIn 1]]
 else eOp 4 [eOp 13 [eNm g.x, eIn 0]]
theorem vN_free : ∀ w ∈ resv, ∀ x, w ≠ vN x := by
 intro w hw x
 have h1 : w.headD 0 = 118 -> w.length = 2 -> False := by
  have : ∀ w ∈ resv, ¬ (w.headD 0 = 118 ∧ w.length = 2) := by decide
  exact fun a b => this w hw ⟨a, b⟩
 intro e
 subst e
 exact h1 rfl rfl
theorem vN_res (x : Nat) : vN x ∉ resv := fun h => vN_free _ h x rfl
section
variable {c : Cx} {d : Nat}
theorem nm1 (x : Nat) : Red c d (lv c d).fac [.wd (vN x)] (eNm x) (fun _ => True) := fac_name (vN_res x)
theorem vN_not (x : Nat) (L : List TK) : pk (.wd (vN x) :: L) [110, 111, 116] = false := by
 have : vN x ≠ [110, 111, 116] := fun e => vN_res x (by rw [e]; decide)
 simp [pk, this]
theorem wh_name (x : Nat) : Whole c d [.wd (vN x)] (eNm x) := wh0 (nm1 x) (vN_not x)
theorem wh_num (n : Nat) : Whole c d [.nm n] (eIn n) := wh0 fac_num fun _ => rfl
theorem wh_sum (s : List UInt8) (op : Int) {la lb : List TK} {a b : Ex} (ha : Red c d (q1 c d) la a s1) (hb : Red c d (q1 c d) lb b s1) (hf : (sumO.find? fun o => decide (s = o.1)).map (·.2) = some op) (hm : (mulO.all fun o => decide (s ≠ o.1)) = true) (hn : ∀ L, pk (la ++ L) [110, 111, 116] = false) : Whole c d (la ++ .sg s :: lb) (.mk op 0 [] [a, b] 0) :=
 wh2 (Red.op ha hb (.inl rfl) hf fun L => ⟨trivial, noq (.inl rfl) hm L⟩) fun L => by rw [List.append_assoc]; exact hn _
theorem fac_call {w : List UInt8} {op : Int} {x : List TK} {a : Ex} {xs : List (List TK)} {es : List Ex} (hw : (w, op, xs.length) ∈ wrdO) (ha : Whole c d x a) (hr : Reds c d (orOf c (lv c d)) stpE xs es) :
 Red c (d + 1) (lv c (d + 1)).fac (.wd w :: .sg [40] :: (x ++ cmm xs ++ [.sg [41]])) (.mk op 0 [] (a :: es) 0) (fun _ => True) :=
 Red.call hw ha hr (fun L => stp_of (s := [41]) (by decide) (.inl rfl) L) (fun L => stp_of (s := [44]) (by decide) (.inl rfl) L)
theorem cmp2 (s : List UInt8) (op : Int) {la lb : List TK} {a b : Ex} (ha : Red c d (lv c d).fac la a (fun _ => True)) (hb : Red c d (lv c d).fac lb b (fun _ => True)) (hf : (cmpO.find? fun o => decide (s = o.1)).map (·.2) = some op) (hm : (mulO.all fun o => decide (s ≠ o.1)) = true) (hs : (sumO.all fun o => decide (s ≠ o.1)) = true) :
 Red c d (q3 c d) (la ++ .sg s :: lb) (.mk op 0 [] [a, b] 0) s2 :=
 Red.cop (rq2 (rq1 ha)) (rq2 (rq1 hb)) (.inl rfl) hf fun L => ⟨⟨trivial, noq (.inl rfl) hm L⟩, noq (.inl rfl) hs L⟩
theorem s2_of {L : List TK} (h : stpE L) : s2 L := ⟨⟨trivial, h.1⟩, h.2.1⟩
theorem wh_cmp (s : List UInt8) (op : Int) {la lb : List TK} {a b : Ex} (ha : Red c d (lv c d).fac la a (fun _ => True)) (hb : Red c d (lv c d).fac lb b (fun _ => True)) (hf : (cmpO.find? fun o => decide (s = o.1)).map (·.2) = some op) (hm : (mulO.all fun o => decide (s ≠ o.1)) = true) (hs : (sumO.all fun o => decide (s ≠ o.1)) = true) (hn : ∀ L, pk (la ++ L) [110, 111, 116] = false) :
 Whole c d (la ++ .sg s :: lb) (.mk op 0 [] [a, b] 0) :=
 wh3 (cmp2 s op ha hb hf hm hs) (fun _ => s2_of) fun L => by rw [List.append_assoc]; exact hn _
theorem ex_wh (g : GX) : Whole c 40 (tks (exPc g)) (exE g) := by
 unfold exPc exE
 by_cases k0 : g.k = 0
 · rw [if_pos k0, if_pos k0]
   exact wh_sum [43] 8 (la := [.wd (vN g.x)]) (rq1 (nm1 _)) (rq1 (nm1 _)) (by decide) (by decide) (vN_not _)
 rw [if_neg k0, if_neg k0]
 by_cases k1 : g.k = 1
 · rw [if_pos k1, if_pos k1]
   refine wh_sum [45] 9 (la := [.wd (vN g.x)]) (lb := [.nm 2] ++ .sg [42] :: [.wd (vN g.y)]) (rq1 (nm1 _)) ?_ (by decide) (by decide) (vN_not _)
   exact Red.op (s := [42]) (fac_num (n := 2)) (nm1 g.y) (.inl rfl) (by decide) fun _ => trivial
 rw [if_neg k1, if_neg k1]
 by_cases k2 : g.k = 2
 · rw [if_pos k2, if_pos k2]
   exact wh0 (fac_call (d := 39) (w := wMax) (x := [.wd (vN g.x)]) (xs := [[.wd (vN g.y)]]) (show (wMax, (19 : Int), 1) ∈ wrdO by decide) (wh_name _) (.cons (wh_name _) .nil)) fun _ => rfl
 rw [if_neg k2, if_neg k2]
 by_cases k3 : g.k = 3
 · rw [if_pos k3, if_pos k3]
   refine wh0 (fac_call (d := 39) (w := wIf) (x := [.wd (vN g.x)] ++ .sg [60] :: [.wd (vN g.y)]) (xs := [[.nm 1], .sg [45] :: [.nm 1]]) (show (wIf, (20 : Int), 2) ∈ wrdO by decide) (wh_cmp [60] 12 (nm1 _) (nm1 _) (by decide) (by decide) (by decide) fun L => vN_not _ _) (.cons (wh_num 1) (.cons ?_ .nil))) fun _ => rfl
   exact wh0 (Red.neg (d := 38) (fac_num (n := 1))) fun _ => rfl
 rw [if_neg k3, if_neg k3]
 by_cases k4 : g.k = 4
 · rw [if_pos k4, if_pos k4]
   exact wh_sum [43] 8 (la := .wd wMin :: .sg [40] :: ([.wd (vN g.x)] ++ cmm [[.nm 3]] ++ [.sg [41]])) (rq1 (fac_call (op := 18) (d := 39) (show (wMin, (18 : Int), 1) ∈ wrdO by decide) (wh_name _) (.cons (wh_num 3) .nil))) (rq1 (fac_num (n := 1))) (by decide) (by decide) (fun _ => rfl)
 rw [if_neg k4, if_neg k4]
 by_cases k5 : g.k = 5
 · rw [if_pos k5, if_pos k5]
   exact wh0 (Red.neg (d := 39) (nm1 g.x)) fun _ => rfl
 rw [if_neg k5, if_neg k5]
 by_cases k6 : g.k = 6
 · rw [if_pos k6, if_pos k6]
   have h1 : Red c 40 (lv c 40).fac (.sg [40] :: (([.wd (vN g.x)] ++ .sg [43] :: [.nm 7]) ++ [.sg [41]])) (eOp 8 [eNm g.x, eIn 7]) (fun _ => True) :=
    Red.par (d := 39) (wh_sum [43] 8 (la := [.wd (vN g.x)]) (rq1 (nm1 _)) (rq1 (fac_num (n := 7))) (by decide) (by decide) (vN_not _)) fun L => stp_of (s := [41]) (by decide) (.inl rfl) L
   exact wh2 (rq2 (Red.op (s := [37]) h1 (fac_num (n := 3)) (.inl rfl) (by decide) fun _ => trivial)) fun _ => rfl
 rw [if_neg k6, if_neg k6]
 exact wh_name _
theorem cd_wh (g : GX) : Whole c (d + 1) (tks (cdPc g)) (cdE g) := by
 unfold cdPc cdE
 by_cases k0 : g.k = 0
 · rw [if_pos k0, if_pos k0]
   exact wh_cmp [60] 12 (la := [.wd (vN g.x)]) (nm1 _) (fac_num (n := 1)) (by decide) (by decide) (by decide) (vN_not _)
 rw [if_neg k0, if_neg k0]
 by_cases k1 : g.k = 1
 · rw [if_pos k1, if_pos k1]
   have a1 := rq4 (cmp2 (c := c) (d := d + 1) [62, 61] 15 (la := [.wd (vN g.x)]) (nm1 _) (nm1 g.y) (by decide) (by decide) (by decide)) fun L => vN_not _ _
   have a2 := rq4 (cmp2 (c := c) (d := d) [61, 61] 10 (la := [.wd (vN g.y)]) (nm1 _) (fac_num (n := 2)) (by decide) (by decide) (by decide)) fun L => vN_not _ _
   have a3 : Red c (d + 1) (lv c (d + 1)).nt (.wd wNot :: ([.wd (vN g.y)] ++ .sg [61, 61] :: [.nm 2])) (eOp 4 [eOp 10 [eNm g.y, eIn 2]]) s2 := Red.nop a2
   exact ((Red.op (ops := andO) (s := wAnd) a1 a3 (.inr rfl) (by decide) fun L => ⟨⟨trivial, noq (s := wAnd) (.inr rfl) (by decide) L⟩, noq (s := wAnd) (.inr rfl) (by decide) L⟩).pass (ops := orO)).mono fun L hL => ⟨⟨s2_of hL, hL.2.2.2.1⟩, hL.2.2.2.2⟩
 rw [if_neg k1, if_neg k1]
 by_cases k2 : g.k = 2
 · rw [if_pos k2, if_pos k2]
   have a1 := (rq4 (cmp2 (c := c) (d := d + 1) [33, 61] 11 (la := [.wd (vN g.x)]) (nm1 _) (fac_num (n := 0)) (by decide) (by decide) (by decide)) fun L => vN_not _ _).pass (ops := andO)
   have a2 := (rq4 (cmp2 (c := c) (d := d + 1) [62] 14 (la := [.wd (vN g.y)]) (nm1 _) (fac_num (n := 1)) (by decide) (by decide) (by decide)) fun L => vN_not _ _).pass (ops := andO)
   exact (Red.op (ops := orO) (s := wOr) a1 a2 (.inr rfl) (by decide) fun L => ⟨⟨⟨trivial, noq (s := wOr) (.inr rfl) (by decide) L⟩, noq (s := wOr) (.inr rfl) (by decide) L⟩, noq (s := wOr) (.inr rfl) (by decide) L⟩).mono fun L hL => ⟨⟨s2_of hL, hL.2.2.2.1⟩, hL.2.2.2.2⟩
 rw [if_neg k2, if_neg k2]
 have a2 := rq4 (cmp2 (c := c) (d := d) [60, 61] 13 (la := [.wd (vN g.x)]) (nm1 _) (fac_num (n := 0)) (by decide) (by decide) (by decide)) fun L => vN_not _ _
 have a3 : Red c (d + 1) (lv c (d + 1)).nt (.wd wNot :: ([.wd (vN g.x)] ++ .sg [60, 61] :: [.nm 0])) (eOp 4 [eOp 13 [eNm g.x, eIn 0]]) s2 := Red.nop a2
 exact (rq6 a3).mono fun L hL => ⟨⟨s2_of hL, hL.2.2.2.1⟩, hL.2.2.2.2⟩
end
end Go.Proofs.YthmdmnfojbnobaaGreatDoor
namespace Go.Proofs.YthmdmnfojbnobaaGreatDoor
open Go.Ab
structure GA where
 wh : Option GX
 hid : Bool
 sets : List (Nat × GX)
 go : Option Nat
inductive GS where
 | deal (x r w s p : Nat)
 | turn (who : Option GX) (p : Nat) (acts : List GA)
structure GR where
 pl : Nat
 v : Nat
 nm : Nat
 ini : List Nat
 stages : List GS
 pays : List GX
section
variable (l : List Int)
def setsC (v : Nat) : Nat -> Nat -> List (Nat × GX) × Nat
 | 0, a => ([], a)
 | m + 1, a => (((nx l a v).1, (gx l v 8 (nx l a v).2).1) :: (setsC v m (gx l v 8 (nx l a v).2).2).1, (setsC v m (gx l v 8 (nx l a v).2).2).2)
def whC (v k a : Nat) : Option GX × Nat :=
 if k = 0 then (none, a) else if (nx l a 3).1 = 0 then (some (gx l v 4 (nx l a 3).2).1, (gx l v 4 (nx l a 3).2).2) else (none, (nx l a 3).2)
def goC (i n a : Nat) : Option Nat × Nat :=
 if (nx l a 3).1 = 0 then (some (i + 1 + (nx l (nx l a 3).2 (n - i)).1), (nx l (nx l a 3).2 (n - i)).2) else (none, (nx l a 3).2)
def actC (v i n k a : Nat) : GA × Nat :=
 let w := whC l v k a
 let h := nx l w.2 3
 let m := nx l h.2 3
 let s := setsC l v m.1 m.2
 let g := goC l i n s.2
 (⟨w.1, decide (h.1 = 0), s.1, g.1⟩, g.2)
def actsC (v i n : Nat) : Nat -> Nat -> Nat -> List GA × Nat
 | 0, _, a => ([], a)
 | m + 1, k, a => ((actC l v i n k a).1 :: (actsC v i n m (k + 1) (actC l v i n k a).2).1, (actsC v i n m (k + 1) (actC l v i n k a).2).2)
def whoC (pl v a : Nat) : (Option GX × Nat) × Nat :=
 if (nx l a 4).1 = 0 then ((some (gx l v 4 (nx l a 4).2).1, pl - 1), (gx l v 4 (nx l a 4).2).2) else ((none, (nx l (nx l a 4).2 pl).1), (nx l (nx l a 4).2 pl).2)
def turnC (pl v i n a : Nat) : GS × Nat :=
 let w := whoC l pl v a
 let m := nx l w.2 3
 let s := actsC l v i n (1 + m.1) 0 m.2
 (.turn w.1.1 w.1.2 s.1, s.2)
def seeC (pl a : Nat) : (Nat × Nat) × Nat := if (nx l a 3).1 = 1 then ((1, (nx l (nx l a 3).2 pl).1), (nx l (nx l a 3).2 pl).2) else (((nx l a 3).1, 0), (nx l a 3).2)
def dealC (pl v a : Nat) : GS × Nat :=
 let x := nx l a v
 let r := nx l x.2 4
 let w := nx l r.2 4
 let s := seeC l pl w.2
 (.deal x.1 r.1 w.1 s.1.1 s.1.2, s.2)
def stC (pl v i n a : Nat) : GS × Nat := if (nx l a 3).1 = 0 then dealC l pl v (nx l a 3).2 else turnC l pl v i n (nx l a 3).2
def stsC (pl v n : Nat) : Nat -> Nat -> Nat -> List GS × Nat
 | 0, _, a => ([], a)
 | m + 1, i, a => ((stC l pl v i n a).1 :: (stsC pl v n m (i + 1) (stC l pl v i n a).2).1, (stsC pl v n m (i + 1) (stC l pl v i n a).2).2)
def paysC (v : Nat) : Nat -> Nat -> List GX × Nat
 | 0, a => ([], a)
 | m + 1, a => ((gx l v 8 a).1 :: (paysC v m (gx l v 8 a).2).1, (paysC v m (gx l v 8 a).2).2)
def iniC : Nat -> Nat -> List Nat × Nat
 | 0, a => ([], a)
 | m + 1, a => ((nx l a 4).1 :: (iniC m (nx l a 4).2).1, (iniC m (nx l a 4).2).2)
def genC : GR :=
 let p := nx l 0 3
 let v := nx l p.2 3
 let n := nx l v.2 4
 let m := nx l n.2 9
 let i := iniC l (1 + v.1) m.2
 let s := stsC l (1 + p.1) (1 + v.1) (1 + n.1) (1 + n.1) 0 i.2
 let y := paysC l (1 + v.1) (1 + p.1) s.2
 ⟨1 + p.1, 1 + v.1, m.1, i.1, s.1, y.1⟩
variable {l}
theorem setsC_le {v : Nat} : ∀ {m a : Nat}, a ≤ l.length -> (setsC l v m a).2 ≤ l.length
 | 0, _, h => h
 | m + 1, _, h => setsC_le (m := m) (gx_le (nx_le h))
theorem whC_le {v k a : Nat} (h : a ≤ l.length) : (whC l v k a).2 ≤ l.length := by
 unfold whC
 repeat' split
 · exact h
 · exact gx_le (nx_le h)
 · exact nx_le h
theorem goC_le {i n a : Nat} (h : a ≤ l.length) : (goC l i n a).2 ≤ l.length := by
 unfold goC
 split
 · exact nx_le (nx_le h)
 · exact nx_le h
theorem actC_le {v i n k a : Nat} (h : a ≤ l.length) : (actC l v i n k a).2 ≤ l.length := goC_le (setsC_le (nx_le (nx_le (whC_le h))))
theorem actsC_le {v i n : Nat} : ∀ {m k a : Nat}, a ≤ l.length -> (actsC l v i n m k a).2 ≤ l.length
 | 0, _, _, h => h
 | m + 1, _, _, h => actsC_le (m := m) (actC_le h)
theorem whoC_le {pl v a : Nat} (h : a ≤ l.length) : (whoC l pl v a).2 ≤ l.length := by
 unfold whoC
 split
 · exact gx_le (nx_le h)
 · exact nx_le (nx_le h)
theorem turnC_le {pl v i n a : Nat} (h : a ≤ l.length) : (turnC l pl v i n a).2 ≤ l.length := actsC_le (nx_le (whoC_le h))
theorem seeC_le {pl a : Nat} (h : a ≤ l.length) : (seeC l pl a).2 ≤ l.length := by
 unfold seeC
 split
 · exact nx_le (nx_le h)
 · exact nx_le h
theorem dealC_le {pl v a : Nat} (h : a ≤ l.length) : (dealC l pl v a).2 ≤ l.length := seeC_le (nx_le (nx_le (nx_le h)))
theorem stC_le {pl v i n a : Nat} (h : a ≤ l.length) : (stC l pl v i n a).2 ≤ l.length := by
 unfold stC
 split
 · exact dealC_le (nx_le h)
 · exact turnC_le (nx_le h)
theorem stsC_le {pl v n : Nat} : ∀ {m i a : Nat}, a ≤ l.length -> (stsC l pl v n m i a).2 ≤ l.length
 | 0, _, _, h => h
 | m + 1, _, _, h => stsC_le (m := m) (stC_le h)
theorem iniC_le : ∀ {m a : Nat}, a ≤ l.length -> (iniC l m a).2 ≤ l.length
 | 0, _, h => h
 | m + 1, _, h => iniC_le (m := m) (nx_le h)
theorem setsC_len {v : Nat} : ∀ {m a : Nat}, (setsC l v m a).1.length = m
 | 0, _ => rfl
 | m + 1, _ => congrArg (· + 1) (setsC_len (m := m))
theorem actsC_len {v i n : Nat} : ∀ {m k a : Nat}, (actsC l v i n m k a).1.length = m
 | 0, _, _ => rfl
 | m + 1, _, _ => congrArg (· + 1) (actsC_len (m := m))
end
def setB (s : Nat × GX) : List UInt8 := [32] ++ vN s.1 ++ [32, 61, 32] ++ exB s.2 ++ [59]
def setsB (l : List (Nat × GX)) : List UInt8 := l.flatMap setB
def whB (w : Option GX) : List UInt8 := match w with
 | none => []
 | some g => [32, 119, 104, 101, 110, 32] ++ cdB g
def hidB (b : Bool) : List UInt8 := if b = true then [32, 104, 105, 100, 100, 101, 110] else []
def goB (g : Option Nat) : List UInt8 := match g with
 | none => []
 | some t => [32, 103, 111, 116, 111, 32, 115] ++ dg t ++ [59]
def aN (k : Nat) : List UInt8 := [UInt8.ofNat (97 + k)]
def actB (k : Nat) (g : GA) : List UInt8 := [32, 32, 97, 99, 116, 105, 111, 110, 32] ++ aN k ++ whB g.wh ++ hidB g.hid ++ [32, 123] ++ setsB g.sets ++ [32, 125] ++ goB g.go ++ [10]
def actsB : Nat -> List GA -> List UInt8
 | _, [] => []
 | k, g :: r => actB k g ++ actsB (k + 1) r
def whoB (w : Option GX) (p : Nat) : List UInt8 := match w with
 | none => dg p
 | some g => [105, 102, 40] ++ cdB g ++ [44, 32, 48, 44, 32] ++ dg p ++ [41]
def turnB (w : Option GX) (p : Nat) (acts : List GA) : List UInt8 := [116, 117, 114, 110, 32] ++ whoB w p ++ [32, 123, 10] ++ actsB 0 acts ++ [125, 10]
def rngW : List (List UInt8) := [[48, 32, 46, 46, 32, 49], [49, 32, 46, 46, 32, 50], [48, 32, 46, 46, 32, 50], [51, 32, 46, 46, 32, 51]]
def wgB (w : Nat) (x : List UInt8) : List UInt8 :=
 if w = 0 then [32, 119, 101, 105, 103, 104, 116, 32, 49, 32, 43, 32] ++ x
 else if w = 1 then [32, 119, 101, 105, 103, 104, 116, 32, 105, 102, 40] ++ x ++ [32, 61, 61, 32, 49, 44, 32, 50, 44, 32, 49, 41]
 else if w = 2 then [32, 119, 101, 105, 103, 104, 116, 32, 109, 97, 120, 40] ++ x ++ [44, 32, 48, 41, 32, 43, 32, 105, 102, 40] ++ x ++ [32, 61, 61, 32, 50, 44, 32, 48, 44, 32, 49, 41]
 else []
def seeB (s p : Nat) : List UInt8 := if s = 0 then [32, 115, 101, 101, 110, 32, 98, 121, 32, 97, 108, 108] else if s = 1 then [32, 115, 101, 101, 110, 32, 98, 121, 32] ++ dg p else []
def dealB (x r w s p : Nat) : List UInt8 := [100, 101, 97, 108, 32] ++ vN x ++ [32, 105, 110, 32] ++ rngW.getD r [] ++ wgB w (vN x) ++ seeB s p ++ [59, 10]
def stB : GS -> List UInt8
 | .deal x r w s p => dealB x r w s p
 | .turn w p acts => turnB w p acts
def lbB (i : Nat) : List UInt8 := [115] ++ dg i ++ [58, 32]
def stsB : Nat -> List GS -> List UInt8
 | _, [] => []
 | i, g :: r => lbB i ++ stB g ++ stsB (i + 1) r
def iniW : List (List UInt8) := [[48], [49], [45, 49], [50]]
def iniB : Nat -> List Nat -> List UInt8
 | _, [] => []
 | i, c :: r => [118, 97, 114, 32, 118] ++ dg i ++ [32, 61, 32] ++ iniW.getD c [] ++ [59, 10] ++ iniB (i + 1) r
def paysB : Bool -> List GX -> List UInt8
 | _, [] => []
 | b, g :: r => (if b then [44, 32] else []) ++ exB g ++ paysB true r
def genB (g : GR) : List UInt8 := [103, 97, 109, 101, 32, 103] ++ dg g.nm ++ [59, 10, 112, 108, 97, 121, 101, 114, 115, 32] ++ dg g.pl ++ [59, 10] ++ iniB 0 g.ini ++ stsB 0 g.stages ++ [115] ++ dg g.stages.length ++ [58, 32, 101, 110, 100, 32, 123, 32, 112, 97, 121, 32] ++ paysB false g.pays ++ [59, 32, 125, 10]
theorem setB_len (s : Nat × GX) : (setB s).length ≤ 60 := by
 have := exB_len s.2
 simp [setB, vN, dg]; omega
theorem setsB_len : ∀ l : List (Nat × GX), (setsB l).length ≤ 60 * l.length
 | [] => by simp [setsB]
 | s :: r => by
  have h1 := setsB_len r
  have h2 := setB_len s
  unfold setsB at h1 ⊢
  rw [List.flatMap_cons, List.length_append, List.length_cons]; omega
theorem whB_len (w : Option GX) : (whB w).length ≤ 60 := by
 cases w with
 | none => simp [whB]
 | some g => have := cdB_len g; simp [whB]; omega
theorem goB_len (g : Option Nat) : (goB g).length ≤ 60 := by
 cases g with
 | none => simp [goB]
 | some g => simp [goB, dg]
theorem hidB_len (b : Bool) : (hidB b).length ≤ 60 := by cases b <;> simp [hidB]
theorem whoB_len (w : Option GX) (p : Nat) : (whoB w p).length ≤ 60 := by
 cases w with
 | none => simp [whoB, dg]
 | some g => have := cdB_len g; simp [whoB, dg]; omega
theorem wgB_len (w : Nat) (x : Nat) : (wgB w (vN x)).length ≤ 60 := by
 unfold wgB
 repeat' split
 all_goals simp [vN, dg]
theorem seeB_len (s p : Nat) : (seeB s p).length ≤ 60 := by
 unfold seeB
 repeat' split
 all_goals simp [dg]
end Go.Proofs.YthmdmnfojbnobaaGreatDoor
namespace Go.Proofs.YthmdmnfojbnobaaGreatDoor
open Go.Ab
def GX.Wf (v n : Nat) (g : GX) : Prop := g.k < n ∧ g.x < v ∧ g.y < v
structure GA.Wf (v i n : Nat) (g : GA) : Prop where
 wh : ∀ c, g.wh = some c -> c.Wf v 4
 sets : ∀ s ∈ g.sets, s.1 < v ∧ s.2.Wf v 8
 len : g.sets.length ≤ 2
 go : ∀ t, g.go = some t -> i < t ∧ t ≤ n
def GS.Wf (pl v n i : Nat) : GS -> Prop
 | .deal x r w s p => x < v ∧ r < 4 ∧ w < 4 ∧ s < 3 ∧ p < pl
 | .turn w p acts => (∀ c, w = some c -> c.Wf v 4) ∧ p < pl ∧ 1 ≤ acts.length ∧ acts.length ≤ 3 ∧ ∀ a ∈ acts, a.Wf v i n
def stsWf (pl v n : Nat) : Nat -> List GS -> Prop
 | _, [] => True
 | i, g :: r => g.Wf pl v n i ∧ stsWf pl v n (i + 1) r
structure GR.Wf (g : GR) : Prop where
 pl1 : 1 ≤ g.pl
 pl3 : g.pl ≤ 3
 v1 : 1 ≤ g.v
 v3 : g.v ≤ 3
 nm : g.nm < 9
 ini : ∀ c ∈ g.ini, c < 4
 inl : g.ini.length = g.v
 st1 : 1 ≤ g.stages.length
 st4 : g.stages.length ≤ 4
 sts : stsWf g.pl g.v g.stages.length 0 g.stages
 pays : ∀ x ∈ g.pays, x.Wf g.v 8
 payl : g.pays.length = g.pl
section
variable {l : List Int} {v pl n : Nat} (hv : 1 ≤ v)
include hv
theorem gx_wf {m a : Nat} (hm : 1 ≤ m) : (gx l v m a).1.Wf v m := ⟨nx_lt hm, nx_lt hv, nx_lt hv⟩
theorem sets_wf : ∀ (m a : Nat), ∀ s ∈ (setsC l v m a).1, s.1 < v ∧ s.2.Wf v 8
 | 0, _, s, h => by cases h
 | m + 1, a, s, h => by
  rw [setsC, List.mem_cons] at h
  rcases h with rfl | h
  · exact ⟨nx_lt hv, gx_wf hv (by decide)⟩
  · exact sets_wf m _ s h
theorem act_wf {i k a : Nat} (hi : i < n) : (actC l v i n k a).1.Wf v i n := by
 dsimp only [actC]
 refine ⟨fun c h => ?_, sets_wf hv _ _, ?_, fun t h => ?_⟩
 · dsimp only at h
   unfold whC at h
   split at h
   · cases h
   · split at h
     · simp only [Option.some.injEq] at h
       rw [← h]; exact gx_wf hv (by decide)
     · cases h
 · rw [setsC_len]
   have := nx_lt (l := l) (a := (nx l (whC l v k a).2 3).2) (n := 3) (by decide)
   omega
 · dsimp only at h
   unfold goC at h
   split at h
   · simp only [Option.some.injEq] at h
     have := nx_lt (l := l) (a := (nx l (setsC l v (nx l (nx l (whC l v k a).2 3).2 3).1 (nx l (nx l (whC l v k a).2 3).2 3).2).2 3).2) (n := n - i) (by omega)
     omega
   · cases h
theorem acts_wf {i : Nat} (hi : i < n) : ∀ (m k a : Nat), ∀ g ∈ (actsC l v i n m k a).1, g.Wf v i n
 | 0, _, _, g, h => by cases h
 | m + 1, k, a, g, h => by
  rw [actsC, List.mem_cons] at h
  rcases h with rfl | h
  · exact act_wf hv hi
  · exact acts_wf hi m _ _ g h
theorem st_wf {i a : Nat} (hp : 1 ≤ pl) (hi : i < n) : (stC l pl v i n a).1.Wf pl v n i := by
 unfold stC
 split
 · dsimp only [dealC]
   refine ⟨nx_lt hv, nx_lt (by decide), nx_lt (by decide), ?_, ?_⟩
   · unfold seeC
     split
     · show 1 < 3; decide
     · exact nx_lt (by decide)
   · unfold seeC
     split
     · exact nx_lt hp
     · exact hp
 · dsimp only [turnC]
   refine ⟨fun c h => ?_, ?_, ?_, ?_, acts_wf hv hi _ _ _⟩
   · unfold whoC at h
     split at h
     · simp only [Option.some.injEq] at h
       rw [← h]; exact gx_wf hv (by decide)
     · cases h
   · unfold whoC
     split
     · show pl - 1 < pl; omega
     · exact nx_lt hp
   · rw [actsC_len]; omega
   · rw [actsC_len]
     have := nx_lt (l := l) (a := (whoC l pl v (nx l a 3).2).2) (n := 3) (by decide)
     omega
theorem sts_wf (hp : 1 ≤ pl) : ∀ (m i a : Nat), i + m ≤ n -> stsWf pl v n i (stsC l pl v n m i a).1
 | 0, _, _, _ => trivial
 | m + 1, i, a, h => ⟨st_wf hv hp (by omega), sts_wf hp m (i + 1) _ (by omega)⟩
theorem pays_wf : ∀ (m a : Nat), ∀ x ∈ (paysC l v m a).1, x.Wf v 8
 | 0, _, g, h => by cases h
 | m + 1, a, g, h => by
  rw [paysC, List.mem_cons] at h
  rcases h with rfl | h
  · exact gx_wf hv (by decide)
  · exact pays_wf m _ g h
end
theorem ini_wf {l : List Int} : ∀ (m a : Nat), ∀ c ∈ (iniC l m a).1, c < 4
 | 0, _, g, h => by cases h
 | m + 1, a, g, h => by
  rw [iniC, List.mem_cons] at h
  rcases h with rfl | h
  · exact nx_lt (by decide)
  · exact ini_wf m _ g h
theorem iniC_ln {l : List Int} : ∀ {m a : Nat}, (iniC l m a).1.length = m
 | 0, _ => rfl
 | m + 1, _ => congrArg (· + 1) (iniC_ln (m := m))
theorem stsC_ln {l : List Int} {pl v n : Nat} : ∀ {m i a : Nat}, (stsC l pl v n m i a).1.length = m
 | 0, _, _ => rfl
 | m + 1, _, _ => congrArg (· + 1) (stsC_ln (m := m))
theorem paysC_ln {l : List Int} {v : Nat} : ∀ {m a : Nat}, (paysC l v m a).1.length = m
 | 0, _ => rfl
 | m + 1, _ => congrArg (· + 1) (paysC_ln (m := m))
theorem gen_wf (l : List Int) : (genC l).Wf := by
 dsimp only [genC]
 have b1 := nx_lt (l := l) (a := 0) (n := 3) (by decide)
 have b2 := nx_lt (l := l) (a := (nx l 0 3).2) (n := 3) (by decide)
 have b3 := nx_lt (l := l) (a := (nx l (nx l 0 3).2 3).2) (n := 4) (by decide)
 have b4 := nx_lt (l := l) (a := (nx l (nx l (nx l 0 3).2 3).2 4).2) (n := 9) (by decide)
 refine ⟨?_, ?_, ?_, ?_, b4, ini_wf _ _, iniC_ln, ?_, ?_, ?_, ?_, paysC_ln⟩
 · dsimp only; omega
 · dsimp only; omega
 · dsimp only; omega
 · dsimp only; omega
 · dsimp only; rw [stsC_ln]; omega
 · dsimp only; rw [stsC_ln]; omega
 · dsimp only; rw [stsC_ln]
   exact sts_wf (by omega) (by omega) _ _ _ (by omega)
 · exact pays_wf (by omega) _ _
end Go.Proofs.YthmdmnfojbnobaaGreatDoor
namespace Go.Proofs.YthmdmnfojbnobaaGreatDoor
open Go.Ab
section
variable {c : Cx} {d : Nat}
theorem open_succ {r : Rd} {L : List TK} {k : TK} {s : List UInt8} (h : Sta c (d + 1) r (k :: L)) (hk : pk (k :: L) s = true) : Sta c d (openR c s r).2 L := by
 have hv := h.v
 have hd := h.d
 unfold openR
 rw [h.peek, if_neg (by rintro ⟨_, h2⟩; omega)]
 have hw : IntKind.i64.wrap (r.v + 1) = r.v + 1 := wrap_id (by omega) (by omega)
 have hu : Sta c d (upR r) (k :: L) := ⟨h.e, h.rem, by show IntKind.i64.wrap (r.v + 1) + (d : Int) = 40; rw [hw]; omega, by omega⟩
 exact (hu.take hk).2
theorem down {r : Rd} {L : List TK} (h : Sta c d r L) (hd : d + 1 ≤ 40) : Sta c (d + 1) (dnR r) L := by
 have hv := h.v
 have hw : IntKind.i64.wrap (r.v - 1) = r.v - 1 := wrap_id (by omega) (by omega)
 exact ⟨h.e, h.rem, by show IntKind.i64.wrap (r.v - 1) + ((d + 1 : Nat) : Int) = 40; rw [hw]; omega, hd⟩
theorem dn_e (r : Rd) : (dnR r).e = r.e := rfl
variable {cmp ntP orP facP : Rd -> Ex × Rd} {l la : List TK} {e a : Ex} {st sa : List TK -> Prop}
theorem Reads.npass (h : Reads c d cmp l e st) (hn : ∀ L, pk (l ++ L) [110, 111, 116] = false) : Reads c d (notG c cmp ntP) l e st := by
 intro r L hs h1
 unfold notG
 rw [hs.peek, if_neg (by rw [hn L]; decide)]
 exact h r L hs h1
theorem Reads.nop (ha : Reads c d ntP la a sa) : Reads c (d + 1) (notG c cmp ntP) (.wd [110, 111, 116] :: la) (.mk 4 0 [] [a] 0) sa := by
 intro r L hs h1
 have ho := open_succ (s := [110, 111, 116]) hs rfl
 unfold notG
 have hp : peekR c [110, 111, 116] r = true := by rw [hs.peek]; rfl
 rw [if_pos hp, if_neg (fun h => h ho.e)]
 rcases ha _ L ho h1 with hb | ⟨hg, he⟩
 · exact .inl hb
 · exact .inr ⟨down hg hs.d, by simp only [Ex.er, Ex.erL, he]⟩
theorem Reads.name {w : List UInt8} (hw : w ∉ resv) : Reads c d (facG c orP facP) [.wd w] (.mk 2 0 w [] 0) (fun _ => True) := by
 intro r L hs _
 have hs : Sta c d r (.wd w :: L) := hs
 unfold facG
 rw [if_neg (fun h => h hs.e), if_pos (by rw [hs.free]; simpa [fre] using hw)]
 obtain ⟨h1, h2⟩ := hs.word hw
 rw [h1]
 exact .inr ⟨h2, by simp only [Ex.er, Ex.erL]⟩
theorem Reads.neg (ha : Reads c d facP la a sa) : Reads c (d + 1) (facG c orP facP) (.sg [45] :: la) (.mk 3 0 [] [a] 0) sa := by
 intro r L hs h1
 have ho := open_succ (s := [45]) hs rfl
 unfold facG
 have hp : peekR c [45] r = true := by rw [hs.peek]; rfl
 have hf : freeR c r = false := by rw [hs.free]; rfl
 rw [if_neg (fun h => h hs.e), if_neg (by rw [hf]; decide), if_pos hp, if_neg (fun h => h ho.e)]
 rcases ha _ L ho h1 with hb | ⟨hg, he⟩
 · exact .inl hb
 · exact .inr ⟨down hg hs.d, by simp only [Ex.er, Ex.erL, he]⟩
theorem Reads.par (ha : Reads c d orP la a sa) (hs : ∀ L, sa (.sg [41] :: L)) : Reads c (d + 1) (facG c orP facP) (.sg [40] :: (la ++ [.sg [41]])) a (fun _ => True) := by
 intro r L h _
 have ho := open_succ (s := [40]) h rfl
 unfold facG
 have hp : peekR c [45] r = false := by rw [h.peek]; rfl
 have hp2 : peekR c [40] r = true := by rw [h.peek]; rfl
 have hf : freeR c r = false := by rw [h.free]; rfl
 rw [if_neg (fun h2 => h2 h.e), if_neg (by rw [hf]; decide), if_neg (by rw [hp]; decide), if_pos hp2, if_neg (fun h2 => h2 ho.e)]
 have ho : Sta c d (openR c [40] r).2 (la ++ (.sg [41] :: L)) := by have := ho; rwa [show (la ++ [TK.sg [41]]).append L = la ++ (.sg [41] :: L) from List.append_assoc ..] at this
 rcases ha _ _ ho (hs _) with hb | ⟨hg, he⟩
 · refine .inl ?_
   rw [take_still _ _ hb, dn_e]; exact hb
 · exact .inr ⟨down (hg.take rfl).2 h.d, he⟩
theorem Reads.num {n : Nat} : Reads c d (facG c orP facP) [.nm n] (.mk 1 n [] [] 0) (fun _ => True) := by
 intro r L hs _
 have hs : Sta c d r (.nm n :: L) := hs
 have hfd : wrdO.find? (fun w => peekR c w.1 r) = none := by
  rw [List.find?_eq_none]
  intro w _; rw [hs.peek]; exact Bool.false_ne_true
 unfold facG
 have hp : peekR c [45] r = false := by rw [hs.peek]; rfl
 have hp2 : peekR c [40] r = false := by rw [hs.peek]; rfl
 have hf : freeR c r = false := by rw [hs.free]; rfl
 rw [if_neg (fun h2 => h2 hs.e), if_neg (by rw [hf]; decide), if_neg (by rw [hp]; decide), if_neg (by rw [hp2]; decide), hfd]
 obtain ⟨h1, h2⟩ := hs.numb
 rw [h1]
 exact .inr ⟨h2, by simp only [Ex.er, Ex.erL]⟩
def cms : List (List TK) -> List TK
 | [] => []
 | x :: r => .sg [44] :: (x ++ cms r)
theorem args_bad {m : Nat} : ∀ {acc : List Ex} {r : Rd}, r.e ≠ 0 -> (argsG c orP m acc r).2.e ≠ 0 := by
 cases m with
 | zero => intro acc r h; exact h
 | succ m =>
  intro acc r h
  have ht : (takeR c [44] r).2.e ≠ 0 := by rw [take_still _ r h]; exact h
  rw [argsG, if_pos ht]
  exact ht
theorem args_read (hst : Still orP) : ∀ (xs : List (List TK)) (es : List Ex), xs.length = es.length -> (∀ i (h1 : i < xs.length) (h2 : i < es.length), Reads c d orP xs[i] es[i] sa) -> (∀ L, sa (.sg [41] :: L)) -> (∀ L, sa (.sg [44] :: L)) →
 ∀ (acc : List Ex) (r : Rd) (L : List TK), Sta c d r (cms xs ++ .sg [41] :: L) →
  (argsG c orP xs.length acc r).2.e ≠ 0 ∨ ∃ l, (argsG c orP xs.length acc r).1 = some (acc ++ l) ∧ Sta c d (argsG c orP xs.length acc r).2 (.sg [41] :: L) ∧ Ex.erL l = Ex.erL es
 | [], [], _, _, _, _, acc, r, L, h => by
  refine .inr ⟨[], ?_, h, rfl⟩
  simp [argsG]
 | x :: xs, e :: es, hl, hr, h1, h2, acc, r, L, h => by
  obtain ⟨ht1, ht⟩ := Sta.take (k := .sg [44]) (s := [44]) (L := x ++ (cms xs ++ .sg [41] :: L)) (by simpa [cms] using h) rfl
  rw [List.length_cons, argsG, if_neg (fun h => h ht.e)]
  have hnx : ∀ xs : List (List TK), ∀ L, sa (cms xs ++ .sg [41] :: L) := by
   intro xs L
   cases xs with
   | nil => exact h1 _
   | cons y ys => exact h2 _
  rcases hr 0 (by simp) (by simp) _ _ ht (hnx xs L) with hb | ⟨hg, he⟩
  · exact .inl (args_bad hb)
  · rcases args_read hst xs es (by simpa using hl) (fun i a b => hr (i + 1) (by simpa using a) (by simpa using b)) h1 h2 (acc ++ [(orP (takeR c [44] r).2).1]) _ L hg with hb | ⟨l, g1, g2, g3⟩
    · exact .inl hb
    · refine .inr ⟨(orP (takeR c [44] r).2).1 :: l, ?_, g2, ?_⟩
      · rw [g1]; simp
      · simp only [Ex.erL, g3]
        rw [he]; rfl
theorem Reads.call {w : List UInt8} {op : Int} {x : List TK} {xs : List (List TK)} {es : List Ex} (hst : Still orP) (hw : (w, op, xs.length) ∈ wrdO) (ha : Reads c d orP x a sa) (hl : xs.length = es.length)
 (hr : ∀ i (h1 : i < xs.length) (h2 : i < es.length), Reads c d orP xs[i] es[i] sa) (h1 : ∀ L, sa (.sg [41] :: L)) (h2 : ∀ L, sa (.sg [44] :: L)) :
 Reads c (d + 1) (facG c orP facP) (.wd w :: .sg [40] :: (x ++ cms xs ++ [.sg [41]])) (.mk op 0 [] (a :: es) 0) (fun _ => True) := by
 intro r L h _
 have h : Sta c (d + 1) r (.wd w :: .sg [40] :: (x ++ (cms xs ++ .sg [41] :: L))) := by simpa using h
 have hwr : w ∈ resv ∧ w ≠ [45] ∧ w ≠ [40] ∧ wrdO.find? (fun v => decide (w = v.1)) = some (w, op, xs.length) := by
  generalize xs.length = m at hw
  simp only [wrdO, List.mem_cons, List.not_mem_nil, or_false, Prod.mk.injEq] at hw
  rcases hw with ⟨rfl, rfl, rfl⟩ | ⟨rfl, rfl, rfl⟩ | ⟨rfl, rfl, rfl⟩ <;> decide
 obtain ⟨k1, k2, k3, k4⟩ := hwr
 have hfd : wrdO.find? (fun v => peekR c v.1 r) = some (w, op, xs.length) := by
  have e : (fun v : List UInt8 × Int × Nat => peekR c v.1 r) = fun v => decide (w = v.1) := by funext v; rw [h.peek]; rfl
  rw [e]; exact k4
 unfold facG
 rw [if_neg (fun h2 => h2 h.e), if_neg (by rw [h.free]; simpa [fre] using k1), h.peek, h.peek, if_neg (by simp [pk, k2]), if_neg (by simp [pk, k3]), hfd]
 simp only
 unfold callG
 simp only
 have ht := (h.take (s := w) (by simp [pk])).2
 have ho := open_succ (s := [40]) ht rfl
 rw [if_neg (fun h => h ho.e)]
 generalize (openR c [40] (takeR c w r).2).2 = r2 at ho ⊢
 have hnx : sa (cms xs ++ .sg [41] :: L) := by
  cases xs with
  | nil => exact h1 _
  | cons y ys => exact h2 _
 rcases ha r2 _ ho hnx with hb | ⟨hg, he⟩
 · have hb2 := args_bad (c := c) (orP := orP) (m := xs.length) (acc := [(orP r2).1]) hb
   split
   · rename_i r3 hq; rw [hq] at hb2; exact .inl hb2
   · rename_i l r3 hq
     rw [hq] at hb2
     refine .inl ?_
     rw [take_still _ _ hb2, dn_e]; exact hb2
 · rcases args_read hst xs es hl hr h1 h2 [(orP r2).1] _ L hg with hb2 | ⟨l, g1, g2, g3⟩
   · split
     · rename_i r3 hq; rw [hq] at hb2; exact .inl hb2
     · rename_i l r3 hq
       rw [hq] at hb2
       refine .inl ?_
       rw [take_still _ _ hb2, dn_e]; exact hb2
   · split
     · rename_i r3 hq; rw [hq] at g1; cases g1
     · rename_i l' r3 hq
       rw [hq] at g1 g2
       obtain rfl := Option.some.inj g1
       refine .inr ⟨down (g2.take rfl).2 h.d, ?_⟩
       simp only [Ex.er, List.cons_append, List.nil_append, Ex.erL, he, g3]
end
end Go.Proofs.YthmdmnfojbnobaaGreatDoor
namespace Go.Proofs.YthmdmnfojbnobaaGreatDoor
open Go.Ab
section
variable {c : Cx}
theorem Reads.mono {d : Nat} {F : Rd -> Ex × Rd} {l : List TK} {e : Ex} {st st' : List TK -> Prop} (h : Reads c d F l e st) (hs : ∀ L, st' L -> st L) : Reads c d F l e st' := fun r L h1 h2 => h r L h1 (hs L h2)
theorem Reads.as {d : Nat} {F : Rd -> Ex × Rd} {l : List TK} {e e' : Ex} {st : List TK -> Prop} (h : Reads c d F l e st) (he : e.er = e'.er) : Reads c d F l e' st := fun r L h1 h2 => by
 rw [← he]; exact h r L h1 h2
def l1 (c : Cx) (d : Nat) : Rd -> Ex × Rd := binF c mulO (lv c d).fac
def l2 (c : Cx) (d : Nat) : Rd -> Ex × Rd := binF c sumO (l1 c d)
def l3 (c : Cx) (d : Nat) : Rd -> Ex × Rd := cmpF c (l2 c d)
section
variable {d : Nat} {l : List TK} {e : Ex}
abbrev any (_ : List TK) : Prop := True
end
end
end Go.Proofs.YthmdmnfojbnobaaGreatDoor
namespace Go.Proofs.YthmdmnfojbnobaaGreatDoor
open Go.Ab
def kwG : List UInt8 := [103, 97, 109, 101]
def kwPl : List UInt8 := [112, 108, 97, 121, 101, 114, 115]
def kwV : List UInt8 := [118, 97, 114]
def kwD : List UInt8 := [100, 101, 97, 108]
def kwI : List UInt8 := [105, 110]
def kwW : List UInt8 := [119, 101, 105, 103, 104, 116]
def kwS : List UInt8 := [115, 101, 101, 110]
def kwB : List UInt8 := [98, 121]
def kwA : List UInt8 := [97, 108, 108]
def kwT : List UInt8 := [116, 117, 114, 110]
def kwAc : List UInt8 := [97, 99, 116, 105, 111, 110]
def kwWh : List UInt8 := [119, 104, 101, 110]
def kwH : List UInt8 := [104, 105, 100, 100, 101, 110]
def kwGo : List UInt8 := [103, 111, 116, 111]
def kwE : List UInt8 := [101, 110, 100]
def kwP : List UInt8 := [112, 97, 121]
def SetP.er (s : SetP) : SetP := ⟨s.nm, s.e.er, 0⟩
def ActP.er (a : ActP) : ActP := ⟨a.nm, Ex.erL a.wh, a.hid, a.sets.map SetP.er, a.go, 0⟩
def StageP.er (x : StageP) : StageP := ⟨x.k, x.lb, x.nm, x.lo, x.hi, Ex.erL x.wt, x.all, x.seen, Ex.erL x.who, x.acts.map ActP.er, Ex.erL x.pays, 0⟩
def VarP.er (v : VarP) : VarP := ⟨v.nm, v.n, 0⟩
def RulesP.er (r : RulesP) : RulesP := ⟨r.nm, r.pl, r.vars.map VarP.er, r.stages.map StageP.er⟩
def flagPc (w : List UInt8) (b : Bool) : List Pc := if b = true then [.b 32, .t (.wd w)] else []
section
variable {c : Cx}
theorem Sta.t2 {d : Nat} {r : Rd} {k : TK} {L : List TK} {s : List UInt8} (h : Sta c d r (k :: L)) (hk : pk (k :: L) s = true) : Sta c d (t2 c s r) L := (h.take hk).2
theorem Sta.len {d : Nat} {r : Rd} {L : List TK} (h : Sta c d r L) : L.length ≤ c.ts.length := by
 have key : ∀ {ts : List Tok} {ks : List TK}, All2 ts ks -> ts.length = ks.length := by
  intro ts ks h
  induction h with
  | nil => rfl
  | cons _ _ ih => simp [ih]
 have := key h.rem
 rw [List.length_drop] at this
 omega
end
end Go.Proofs.YthmdmnfojbnobaaGreatDoor
namespace Go.Proofs.YthmdmnfojbnobaaGreatDoor
open Go.Ab
def sN (i : Nat) : List UInt8 := [115] ++ dg i
def gN (i : Nat) : List UInt8 := [103] ++ dg i
def pnl : Pc := .b 10
def setPx (s : Nat × GX) : List Pc := [pb, pw (vN s.1), pb, ps [61], pb] ++ exPc s.2 ++ [ps [59]]
def whPx (w : Option GX) : List Pc := match w with
 | none => []
 | some g => [pb, pw kwWh, pb] ++ cdPc g
def goPx (g : Option Nat) : List Pc := match g with
 | none => []
 | some t => [pb, pw kwGo, pb, pw (sN t), ps [59]]
def actPx (k : Nat) (g : GA) : List Pc := [pb, pb, pw kwAc, pb, pw (aN k)] ++ whPx g.wh ++ flagPc kwH g.hid ++ [pb, ps [123]] ++ g.sets.flatMap setPx ++ [pb, ps [125]] ++ goPx g.go ++ [pnl]
def actsPx : Nat -> List GA -> List Pc
 | _, [] => []
 | k, g :: r => actPx k g ++ actsPx (k + 1) r
def whoPx (w : Option GX) (p : Nat) : List Pc := match w with
 | none => [pn p]
 | some g => [pw wIf, ps [40]] ++ cdPc g ++ [ps [44], pb, pn 0, ps [44], pb, pn p, ps [41]]
def turnPx (w : Option GX) (p : Nat) (acts : List GA) : List Pc := [pw kwT, pb] ++ whoPx w p ++ [pb, ps [123], pnl] ++ actsPx 0 acts ++ [ps [125], pnl]
def loV (r : Nat) : Nat := if r = 1 then 1 else if r = 3 then 3 else 0
def hiV (r : Nat) : Nat := if r = 0 then 1 else if r = 3 then 3 else 2
def wgX (w x : Nat) : List Pc :=
 if w = 0 then [pn 1, pb, ps [43], pb, pw (vN x)]
 else if w = 1 then [pw wIf, ps [40], pw (vN x), pb, ps [61, 61], pb, pn 1, ps [44], pb, pn 2, ps [44], pb, pn 1, ps [41]]
 else [pw wMax, ps [40], pw (vN x), ps [44], pb, pn 0, ps [41], pb, ps [43], pb, pw wIf, ps [40], pw (vN x), pb, ps [61, 61], pb, pn 2, ps [44], pb, pn 0, ps [44], pb, pn 1, ps [41]]
def wgPx (w x : Nat) : List Pc := if w < 3 then [pb, pw kwW, pb] ++ wgX w x else []
def seePx (s p : Nat) : List Pc := if s = 0 then [pb, pw kwS, pb, pw kwB, pb, pw kwA] else if s = 1 then [pb, pw kwS, pb, pw kwB, pb, pn p] else []
def dealPx (x r w s p : Nat) : List Pc := [pw kwD, pb, pw (vN x), pb, pw kwI, pb, pn (loV r), pb, ps [46, 46], pb, pn (hiV r)] ++ wgPx w x ++ seePx s p ++ [ps [59], pnl]
def stPx : GS -> List Pc
 | .deal x r w s p => dealPx x r w s p
 | .turn w p acts => turnPx w p acts
def stsPx : Nat -> List GS -> List Pc
 | _, [] => []
 | i, g :: r => [pw (sN i), ps [58], pb] ++ stPx g ++ stsPx (i + 1) r
def iniX (c : Nat) : List Pc := if c = 0 then [pn 0] else if c = 1 then [pn 1] else if c = 2 then [ps [45], pn 1] else [pn 2]
def iniPx : Nat -> List Nat -> List Pc
 | _, [] => []
 | i, c :: r => [pw kwV, pb, pw (vN i), pb, ps [61], pb] ++ iniX c ++ [ps [59], pnl] ++ iniPx (i + 1) r
def paysPx : Bool -> List GX -> List Pc
 | _, [] => []
 | b, g :: r => (if b then [ps [44], pb] else []) ++ exPc g ++ paysPx true r
def genPx (g : GR) : List Pc := [pw kwG, pb, pw (gN g.nm), ps [59], pnl, pw kwPl, pb, pn g.pl, ps [59], pnl] ++ iniPx 0 g.ini ++ stsPx 0 g.stages ++ [pw (sN g.stages.length), ps [58], pb, pw kwE, pb, ps [123], pb, pw kwP, pb] ++ paysPx false g.pays ++ [ps [59], pb, ps [125], pnl]
theorem dec_dg {n : Nat} (h : n ≤ 9) : decN n = dg n := decF_one h
theorem txt_setx (s : Nat × GX) : txt (setPx s) = setB s := by simp [setPx, setB, txt, txt_app, TK.tx, txt_ex]
theorem txt_flx (b : Bool) : txt (flagPc kwH b) = hidB b := by cases b <;> rfl
theorem txt_wh (w : Option GX) : txt (whPx w) = whB w := by cases w <;> simp [whPx, whB, txt, TK.tx, txt_cd, kwWh]
theorem txt_gox (w : Option Nat) : txt (goPx w) = goB w := by cases w <;> simp [goPx, goB, txt, TK.tx, kwGo, sN]
theorem txt_setsx : ∀ l : List (Nat × GX), txt (l.flatMap setPx) = setsB l
 | [] => rfl
 | s :: r => by
  have h := txt_setsx r
  unfold setsB at h ⊢
  rw [List.flatMap_cons, List.flatMap_cons, txt_app, h, txt_setx]
theorem txt_actx (k : Nat) (g : GA) : txt (actPx k g) = actB k g := by
 simp [actPx, actB, txt, txt_app, TK.tx, txt_wh, txt_flx, txt_setsx, txt_gox, kwAc, pnl]
theorem txt_acts : ∀ (l : List GA) (k : Nat), txt (actsPx k l) = actsB k l
 | [], _ => rfl
 | g :: r, k => by rw [actsPx, actsB, txt_app, txt_actx, txt_acts r]
theorem txt_who (w : Option GX) {p : Nat} (h : p ≤ 9) : txt (whoPx w p) = whoB w p := by
 cases w <;> simp [whoPx, whoB, txt, txt_app, TK.tx, txt_cd, dec_dg h, wIf, show decN 0 = [48] from rfl]
theorem txt_wg {w x : Nat} : txt (wgPx w x) = wgB w (vN x) := by
 unfold wgPx wgB wgX
 by_cases h0 : w = 0
 · subst h0; simp [txt, TK.tx, kwW, show decN 1 = [49] from rfl]
 by_cases h1 : w = 1
 · subst h1; simp [txt, TK.tx, kwW, wIf, show decN 1 = [49] from rfl, show decN 2 = [50] from rfl]
 by_cases h2 : w = 2
 · subst h2; simp [txt, TK.tx, kwW, wIf, wMax, show decN 1 = [49] from rfl, show decN 2 = [50] from rfl, show decN 0 = [48] from rfl]
 rw [if_neg (by omega), if_neg h0, if_neg h1, if_neg h2]; rfl
theorem txt_see {s p : Nat} (h : p ≤ 9) : txt (seePx s p) = seeB s p := by
 unfold seePx seeB
 repeat' split
 all_goals simp [txt, TK.tx, kwS, kwB, kwA, dec_dg h]
theorem txt_dl {x r w s p : Nat} (hr : r < 4) (h : p ≤ 9) : txt (dealPx x r w s p) = dealB x r w s p := by
 have hq : decN (loV r) ++ [32, 46, 46, 32] ++ decN (hiV r) = rngW.getD r [] := by
  match r, hr with
  | 0, _ => rfl
  | 1, _ => rfl
  | 2, _ => rfl
  | 3, _ => rfl
 unfold dealPx dealB
 rw [← hq]
 simp [txt, txt_app, TK.tx, txt_wg, txt_see h, kwD, kwI, pnl]
theorem txt_st {pl v n i : Nat} {g : GS} (h : g.Wf pl v n i) (hp : pl ≤ 3) : txt (stPx g) = stB g := by
 cases g with
 | deal x r w s p => exact txt_dl h.2.1 (by have := h.2.2.2.2; omega)
 | turn w p acts =>
  have hp9 : p ≤ 9 := by have := h.2.1; omega
  simp [stPx, stB, turnPx, turnB, txt, txt_app, TK.tx, txt_who w hp9, txt_acts, kwT, pnl]
theorem txt_sts {pl v n : Nat} (hp : pl ≤ 3) : ∀ (l : List GS) (i : Nat), stsWf pl v n i l -> txt (stsPx i l) = stsB i l
 | [], _, _ => rfl
 | g :: r, i, h => by
  rw [stsPx, stsB, txt_app, txt_app, txt_st h.1 hp, txt_sts hp r _ h.2]
  simp [txt, TK.tx, sN, lbB]
theorem txt_ini : ∀ (l : List Nat) (i : Nat), (∀ c ∈ l, c < 4) -> txt (iniPx i l) = iniB i l
 | [], _, _ => rfl
 | c :: r, i, h => by
  have hq : txt (iniX c) = iniW.getD c [] := by
   match c, h c (by simp) with
   | 0, _ => rfl
   | 1, _ => rfl
   | 2, _ => rfl
   | 3, _ => rfl
  rw [iniPx, iniB, <- hq]
  simp only [txt_app, txt_ini r (i + 1) fun c hc => h c (by simp [hc])]
  simp [txt, TK.tx, kwV, vN, pnl]
theorem txt_pays : ∀ (l : List GX) (b : Bool), txt (paysPx b l) = paysB b l
 | [], _ => rfl
 | g :: r, b => by
  rw [paysPx, paysB, txt_app, txt_app, txt_ex, txt_pays r]
  cases b <;> rfl
theorem txt_gen {g : GR} (h : g.Wf) : txt (genPx g) = genB g := by
 have h1 := h.pl3
 have h2 := h.st4
 unfold genPx genB
 simp only [txt_app, txt_ini _ _ h.ini, txt_sts h.pl3 _ _ h.sts, txt_pays]
 simp [txt, TK.tx, kwG, kwPl, kwE, kwP, gN, sN, pnl, dec_dg (show g.pl ≤ 9 by omega)]
end Go.Proofs.YthmdmnfojbnobaaGreatDoor
